/-
  PROVED HERE: a part of the proof, by a calculus of weakest conditions over an abstract heap (VaiV, VaiG, Plain, PM, Q1, Q2, VaiH).
-/
import Derived.Test.YtmjghbjpdoeemaaDoorV3
set_option linter.unusedVariables false
set_option linter.unusedSimpArgs false
set_option maxRecDepth 100000
namespace Go.Vai
open Go Go.RowKit
section
variable {α : Type} {s : Nat} {enc : α → List Value}
theorem flat_dropQ (he : ∀ a : α, (enc a).length = s) (L : List α) : ∀ i, (L.flatMap enc).drop (i * s) = (L.drop i).flatMap enc := by
  induction L with
  | nil => intro i; simp
  | cons a L ih =>
    intro i
    cases i with
    | zero => simp
    | succ i =>
      simp only [List.flatMap_cons, List.drop_succ_cons]
      rw [List.drop_append, ← ih i, he, List.drop_of_length_le (by rw [he, Nat.succ_mul]; omega), show (i + 1) * s - s = i * s by rw [Nat.succ_mul]; omega]
      rfl
theorem Sl.tail {h : Heap} {b o cap cap' i : Nat} {L : List α} (he : ∀ a : α, (enc a).length = s) (hs : Sl enc h (.slice (some ⟨b, o, none⟩) L.length cap) L) (hi : i < L.length) : Sl enc h (.slice (some ⟨b, o + i * s, none⟩) (L.length - i) cap') (L.drop i) := by
  obtain ⟨x', cap2, e1, h2⟩ := hs
  cases e1
  refine ⟨some ⟨b, o + i * s, none⟩, cap', by simp, fun hn => ?_⟩
  have hL : L ≠ [] := by rintro rfl; simp at hn
  obtain ⟨b', o', e, h3, h4⟩ := h2 hL
  cases e
  refine ⟨_, _, rfl, h3, ?_⟩
  have hl := flat_length (enc := enc) he L
  have hle : i * s ≤ L.length * s := Nat.mul_le_mul_right _ (by omega)
  have := h4.sub (i * s) (L.length * s - i * s) (by omega)
  rw [flat_dropQ he, List.take_of_length_le (by rw [flat_length he, List.length_drop, Nat.sub_mul]; exact Nat.le_refl _)] at this
  exact this
theorem boundsFrom {β : Type} {fl : β} {len lim cap i : Nat} (hi : i ≤ len) (hl : len ≤ lim) (κ : Nat → Nat → Nat → β) : boundsB fl len lim cap (some (.int .i64 (i : Int))) none none κ = κ i len cap := by
  have e1 : Nat.ble i len = true := Nat.ble_eq_true_of_le hi
  have e2 : Nat.ble len lim = true := Nat.ble_eq_true_of_le hl
  unfold boundsB
  simp only [numK_nat, numK_none, e1, e2]
theorem Cut.from {e : Nat} {h : Heap} {v : Value} {L : List α} {i : Nat} (he : ∀ a : α, (enc a).length = s) (hs0 : 0 < s) (hs : Sl enc h v L) (c : Cut e s h v L.length) (hi : i ≤ L.length) :
    ∃ u, Sl enc h u (L.drop i) ∧ ∀ (β : Type) (fl : β) (κ : Value → Heap → β), sliceB fl e s v (some (.int .i64 (i : Int))) none none h κ = κ u h := by
  have nilD : i = L.length → L.drop i = [] := fun e => List.drop_of_length_le (by omega)
  rcases c with ⟨c0, rfl⟩ | ⟨c0, b, o, rfl⟩ | ⟨b, o, cap, rfl, c1, c2⟩ | ⟨b, vs, n, rfl, c2, c3, c4, c5⟩
  · obtain rfl : i = 0 := by omega
    exact ⟨.slice none 0 0, by rw [nilD (by omega)]; exact Sl.nil _ _ _, fun β fl κ => id rfl⟩
  · obtain rfl : i = 0 := by omega
    exact ⟨.slice (some ⟨b, o, none⟩) 0 anyCap, by rw [nilD (by omega)]; exact Sl.nil _ _ _, fun β fl κ => id rfl⟩
  · have e1 : Nat.beq cap anyCap = false := by
      cases hq : Nat.beq cap anyCap with
      | false => rfl
      | true => have := beq_t hq; unfold anyCap at this; omega
    have e2 : Nat.beq cap openCap = false := by
      cases hq : Nat.beq cap openCap with
      | false => rfl
      | true => have := beq_t hq; unfold openCap at this; omega
    have e3 : Nat.ble cap 9223372036854775807 = true := Nat.ble_eq_true_of_le c2
    by_cases h0 : cap = i
    · subst h0
      refine ⟨.slice (some ⟨b, o, none⟩) 0 0, by rw [nilD (by omega)]; exact Sl.nil _ _ _, fun β fl κ => ?_⟩
      unfold sliceB
      simp only [e1, e2, e3]
      rw [boundsFrom (by omega) (by omega)]
      unfold sliceOut
      rw [Nat.beq_refl]
      simp only [fnK_eq]
      show κ (.slice (some ⟨b, o, none⟩) (L.length - cap) 0) h = _
      rw [show L.length - cap = 0 by omega]
    · have e4 : Nat.beq cap i = false := by
        cases hq : Nat.beq cap i with
        | false => rfl
        | true => exact absurd (beq_t hq) h0
      by_cases hlt : i < L.length
      · refine ⟨.slice (some ⟨b, o + i * s, none⟩) (L.length - i) (cap - i), hs.tail he hlt, fun β fl κ => ?_⟩
        unfold sliceB
        simp only [e1, e2, e3]
        rw [boundsFrom (by omega) (by omega)]
        unfold sliceOut
        simp only [e4, fnK_eq]
        rfl
      · refine ⟨.slice (some ⟨b, o + i * s, none⟩) 0 (cap - i), by rw [nilD (by omega)]; exact Sl.nil _ _ _, fun β fl κ => ?_⟩
        unfold sliceB
        simp only [e1, e2, e3]
        rw [boundsFrom (by omega) (by omega)]
        unfold sliceOut
        simp only [e4, fnK_eq]
        show κ (.slice (some ⟨b, o + i * s, none⟩) (L.length - i) (cap - i)) h = _
        rw [show L.length - i = 0 by omega]
  · obtain ⟨s, rfl⟩ : ∃ k, s = k + 1 := ⟨s - 1, by omega⟩
    have hk : knownOf h e b = some (n * (s + 1)) := by unfold knownOf; rw [c3]; simp only [cellsO, beq_self_t, c4]
    have hd : Nat.div (Nat.sub (n * (s + 1)) 0) (s + 1) = n := by show (n * (s + 1) - 0) / (s + 1) = n; rw [Nat.sub_zero, Nat.mul_div_cancel _ (by omega)]
    have e1 : Nat.beq openCap anyCap = false := by decide
    have e2 : Nat.beq openCap openCap = true := Nat.beq_refl _
    have e3 : Nat.ble 0 (n * (s + 1)) = true := Nat.ble_eq_true_of_le (Nat.zero_le _)
    by_cases h0 : i = n
    · subst h0
      refine ⟨.slice (some ⟨b, 0, none⟩) 0 anyCap, by rw [nilD (by omega)]; exact Sl.nil _ _ _, fun β fl κ => ?_⟩
      unfold sliceB
      simp only [e1, e2, hk, e3, hd]
      rw [boundsFrom hi c5]
      simp only [e2, beq_self_t]
    · have e4 : Nat.beq i n = false := by
        cases hq : Nat.beq i n with
        | false => rfl
        | true => exact absurd (beq_t hq) h0
      by_cases hlt : i < L.length
      · refine ⟨.slice (some ⟨b, 0 + i * (s + 1), none⟩) (L.length - i) openCap, hs.tail he hlt, fun β fl κ => ?_⟩
        unfold sliceB
        simp only [e1, e2, hk, e3, hd]
        rw [boundsFrom hi c5]
        simp only [e2, e4, fnK_eq]
        rfl
      · refine ⟨.slice (some ⟨b, 0 + i * (s + 1), none⟩) 0 openCap, by rw [nilD (by omega)]; exact Sl.nil _ _ _, fun β fl κ => ?_⟩
        unfold sliceB
        simp only [e1, e2, hk, e3, hd]
        rw [boundsFrom hi c5]
        simp only [e2, e4, fnK_eq]
        show κ (.slice (some ⟨b, 0 + i * (s + 1), none⟩) (L.length - i) openCap) h = _
        rw [show L.length - i = 0 by omega]
end
end Go.Vai

namespace Go.Vai
open Go Go.RowKit
def HQ (a b : Heap) : Prop := a = b
section
variable {P : Program} {α : Type} {enc : α → List Value} {s : Nat} {ti : TypeId} {f g : FuncId}
def TyS (e : TypeId) (h : Heap) (v : Value) : Prop := ∀ b o n c, v = .slice (some ⟨b, o, none⟩) n c → n ≠ 0 → b < h.nx ∧ ∃ vs op, h.bl.get b = some (cellsO vs e op)
theorem TyS.le {e : TypeId} {h h' : Heap} {v : Value} (t : TyS e h v) (l : Le h h') : TyS e h' v := fun b o n c hv hn => by
  obtain ⟨h1, vs, op, h2⟩ := t b o n c hv hn
  exact ⟨Nat.lt_of_lt_of_le h1 l.nx, vs, op, (l.get b h1).trans h2⟩
theorem TyS.own {a h : Heap} {e : TypeId} {v : Value} {L : List α} (ho : Own enc a e h v L) : TyS e h v := by
  intro b o n c hv hn
  rcases ho with ⟨_, rfl | ⟨b', o', rfl⟩⟩ | ⟨b', rfl, h1, h2, h3, h4⟩
  · cases hv
  · cases hv; exact absurd rfl hn
  · cases hv; exact ⟨h2, _, _, h4⟩
theorem TyS.put {e : TypeId} {h : Heap} {v : Value} (t : TyS e h v) {d : Nat} (hd : ∀ vs op, h.bl.get d ≠ some (cellsO vs e op)) (o' : AObj) : TyS e ⟨h.nx, h.bl.upd d o', h.lo⟩ v := by
  intro b o n c hv hn
  obtain ⟨h1, vs, op, h2⟩ := t b o n c hv hn
  refine ⟨h1, vs, op, (T.get_updne _ _ ?_).trans h2⟩
  rintro rfl
  exact hd vs op h2
theorem Sl.put {e : TypeId} {h : Heap} {v : Value} {L : List α} (hs : Sl enc h v L) (t : TyS e h v) {d : Nat} (hd : ∀ vs op, h.bl.get d ≠ some (cellsO vs e op)) (o' : AObj) : Sl enc ⟨h.nx, h.bl.upd d o', h.lo⟩ v L := by
  obtain ⟨x, cap, rfl, h2⟩ := hs
  refine ⟨x, cap, rfl, fun hn => ?_⟩
  obtain ⟨b, o, rfl, h3, h4⟩ := h2 hn
  obtain ⟨h1, vs, op, h5⟩ := t b o _ cap rfl (by intro h0; exact hn (List.eq_nil_of_length_eq_zero h0))
  refine ⟨b, o, rfl, h3, ?_⟩
  have : (h.bl.upd d o').get b = h.bl.get b := T.get_updne _ _ (by rintro rfl; exact hd vs op h5)
  show Has ((h.bl.upd d o').get b) _ _
  rw [this]; exact h4
end
end Go.Vai

namespace Go.Clashes
structure H4 where
  x : Int
  t : Int
  r : Int
  m : Int
def tab : List (List Bool) := [
  [true, true, true, true, true, true, true],
  [true, true, true, true, true, true, false],
  [true, true, true, false, false, false, false],
  [true, true, false, true, false, true, false],
  [true, true, false, false, false, false, false],
  [true, true, false, true, false, false, false],
  [true, false, false, false, false, false, false]]
def cmp (a b : Int) : Bool := decide (0 ≤ a) && decide (a ≤ 6) && decide (0 ≤ b) && decide (b ≤ 6) && ((tab.getD a.toNat []).getD b.toNat false)
def bad (p q : H4) : Bool := (p.t == q.t && p.r == q.r) && !(p.x == q.x) && !cmp p.m q.m
end Go.Clashes

namespace Go.Vai
open Go Go.Clashes
def kn (m : Int) : Bool := decide (0 ≤ m) && decide (m ≤ 6)
def tabC : List (List Bool) := [
  [true, false, false, false, false, false, false],
  [true, true, false, false, false, false, false],
  [true, true, true, false, false, false, false],
  [true, true, false, true, false, false, false],
  [true, true, true, true, true, false, false],
  [true, true, false, true, false, true, false],
  [true, true, true, true, true, true, true]]
def cov (a b : Int) : Bool := kn a && kn b && ((tabC.getD a.toNat []).getD b.toNat false)
end Go.Vai

namespace Go.Vai
open Go Go.Clashes
structure R5 where
  id : Int
  x : Int
  m : Int
  w : Int
  s : Int
def enc5 (r : R5) : List Value := [.int .i64 r.id, .int .i64 r.x, .int .i64 r.m, .int .i64 r.w, .int .i64 r.s]
theorem enc5_len (r : R5) : (enc5 r).length = 5 := rfl
theorem enc5_one (r : R5) : (enc5 r).all oneC = true := rfl
theorem r5_ext {p q : R5} : p = q ↔ (p.id = q.id ∧ p.x = q.x ∧ p.m = q.m ∧ p.w = q.w ∧ p.s = q.s) := by
  cases p; cases q; simp
instance : DecidableEq R5 := fun p q => decidable_of_iff _ r5_ext.symm
structure RightR (W : Int) (r : R5) : Prop where
  id : 0 ≤ r.id
  km : kn r.m = true
  kw : kn r.w = true
  s0 : 0 ≤ r.s
  sW : r.s ≤ W
  wait : 0 < r.s → cov r.m r.w = false
  hold : r.s = 0 → r.m ≠ 0 ∧ r.w = r.m
structure Beside (a b : R5) : Prop where
  id : a.id ≠ b.id
  x : a.x ≠ b.x
  s : 0 < a.s → a.s ≠ b.s
  cm : a.m ≠ 0 → b.m ≠ 0 → cmp a.m b.m = true
  ord : a.m = 0 → b.m = 0 ∧ a.s < b.s
structure VQ (Q : List R5) (W : Int) : Prop where
  w0 : 0 ≤ W
  right : ∀ r ∈ Q, RightR W r
  pair : Q.Pairwise Beside
theorem pw_get {α : Type} {R : α → α → Prop} {L : List α} : L.Pairwise R ↔ ∀ (i j : Nat) (p q : α), i < j → L[i]? = some p → L[j]? = some q → R p q := by
  rw [List.pairwise_iff_getElem]
  constructor
  · intro h i j p q hij hp hq
    obtain ⟨hi, rfl⟩ := List.getElem?_eq_some_iff.1 hp
    obtain ⟨hj, rfl⟩ := List.getElem?_eq_some_iff.1 hq
    exact h i j hi hj hij
  · intro h i j hi hj hij
    exact h i j _ _ hij (List.getElem?_eq_getElem hi) (List.getElem?_eq_getElem hj)
theorem pw_set {α : Type} {R : α → α → Prop} {L : List α} {i : Nat} {p : α} (h : L.Pairwise R) (h1 : ∀ (j : Nat) (q : α), j < i → L[j]? = some q → R q p) (h2 : ∀ (j : Nat) (q : α), i < j → L[j]? = some q → R p q) : (L.set i p).Pairwise R := by
  rw [pw_get] at *
  intro a b u v hab hu hv
  rw [List.getElem?_set] at hu hv
  by_cases ha : i = a
  · subst ha
    rw [if_pos rfl] at hu
    rw [if_neg (by omega)] at hv
    split at hu
    · cases hu; exact h2 b v hab hv
    · cases hu
  · rw [if_neg ha] at hu
    by_cases hb : i = b
    · subst hb
      rw [if_pos rfl] at hv
      split at hv
      · cases hv; exact h1 a u hab hu
      · cases hv
    · rw [if_neg hb] at hv
      exact h a b u v hab hu hv
theorem mem_set {α : Type} {L : List α} {i : Nat} {p q : α} (h : q ∈ L.set i p) : q = p ∨ q ∈ L := by
  rcases List.mem_or_eq_of_mem_set h with h | h
  · exact .inr h
  · exact .inl h
theorem VQ.mono {Q : List R5} {W W' : Int} (v : VQ Q W) (h : W ≤ W') : VQ Q W' :=
  ⟨Int.le_trans v.w0 h, fun r hr => let a := v.right r hr; ⟨a.id, a.km, a.kw, a.s0, Int.le_trans a.sW h, a.wait, a.hold⟩, v.pair⟩
theorem VQ.nil : VQ [] 0 := ⟨Int.le_refl _, fun r hr => (by cases hr), List.Pairwise.nil⟩
theorem VQ.filter {Q : List R5} {W : Int} (v : VQ Q W) (F : R5 → Bool) : VQ (Q.filter F) W :=
  ⟨v.w0, fun r hr => v.right r (List.mem_filter.1 hr).1, v.pair.sublist List.filter_sublist⟩
end Go.Vai

namespace Go.Vai
open Go Go.Clashes
theorem pw_snoc {α : Type} {R : α → α → Prop} {L : List α} {p : α} (h : L.Pairwise R) (h1 : ∀ q ∈ L, R q p) : (L ++ [p]).Pairwise R := by
  rw [List.pairwise_append]
  exact ⟨h, List.pairwise_singleton _ _, fun q hq r hr => by rw [List.mem_singleton] at hr; subst hr; exact h1 q hq⟩
end Go.Vai

namespace Go.Vai
open Go
variable {β : Type} {fl : β}
end Go.Vai
