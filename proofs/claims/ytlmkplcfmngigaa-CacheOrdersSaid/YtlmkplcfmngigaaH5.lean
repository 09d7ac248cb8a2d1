/-
  PROVED HERE: a part of the proof, by a calculus of weakest conditions over an abstract heap (H4, H5, H6, H7).
-/
import Derived.Test.YtlmkplcfmngigaaH
set_option linter.unusedVariables false
set_option linter.unusedSimpArgs false
set_option maxRecDepth 100000
/-! The plain law of orders: sorted by insertion; released in order what is left stays complete. -/
namespace Go.Proofs
open Go.Clashes

def ordLt (p q : H4) : Prop := lvl q.t q.r < lvl p.t p.r ∨ (lvl p.t p.r = lvl q.t q.r ∧ ltN p q)
def cmpO (p q : H4) : Int := if lvl q.t q.r - lvl p.t p.r = 0 then nmCmp p.t p.r q.t q.r else lvl q.t q.r - lvl p.t p.r
theorem cmpO_lt (p q : H4) : cmpO p q < 0 ↔ ordLt p q := by
  unfold cmpO nmCmp cmpI ordLt ltN
  split <;> (try split) <;> (try split) <;> (try split) <;> (try split) <;> omega
theorem ordLt_trans {p q s : H4} (h : ordLt p q) (k : ordLt q s) : ordLt p s := by unfold ordLt ltN at *; omega
theorem ordLt_tri {p q : H4} (hn : ¬ (p.t = q.t ∧ p.r = q.r)) (h : ¬ ordLt p q) : ordLt q p := by unfold ordLt ltN at *; omega
theorem ordLt_irr {p q : H4} (h : ordLt p q) : ¬ (p.t = q.t ∧ p.r = q.r) := by
  rintro ⟨h1, h2⟩
  unfold ordLt ltN at h
  rw [h1, h2] at h
  omega
/-- the j-th is on its way down -/
def InvJ (L D : List H4) (i j : Nat) : Prop := ∃ A x B C, D = A ++ x :: (B ++ C) ∧ A.length = j ∧ A.length + B.length = i ∧ (A ++ B).Pairwise ordLt ∧ (∀ q ∈ B, ordLt x q) ∧ D.Perm L
theorem InvJ.start {L D : List H4} {i : Nat} (hi : i < D.length) (hs : (D.take i).Pairwise ordLt) (hp : D.Perm L) : InvJ L D i i := by
  refine ⟨D.take i, D[i], [], D.drop (i + 1), ?_, by simp; omega, by simp; omega, by simpa using hs, by simp, hp⟩
  rw [List.nil_append, ← List.drop_eq_getElem_cons hi, List.take_append_drop]
theorem InvJ.step {L D : List H4} {i j : Nat} {x y : H4} (h : InvJ L D i (j + 1)) (hx : D[j + 1]? = some x) (hy : D[j]? = some y) (hl : ordLt x y) : InvJ L ((D.set (j + 1) y).set j x) i j := by
  obtain ⟨A, x', B, C, rfl, h1, h2, h3, h4, h5⟩ := h
  rcases List.eq_nil_or_concat A with rfl | ⟨A', y', rfl⟩
  · simp at h1
  · have hj : A'.length = j := by simpa using h1
    subst hj
    have e : A'.concat y' ++ x' :: (B ++ C) = A' ++ y' :: x' :: (B ++ C) := by simp
    rw [e] at hx hy h5 ⊢
    rw [List.getElem?_append_right (by omega)] at hx hy
    simp at hx hy
    subst hx; subst hy
    have e2 : ((A' ++ y' :: x' :: (B ++ C)).set (A'.length + 1) y').set A'.length x' = A' ++ x' :: ((y' :: B) ++ C) := by
      rw [List.set_append_right _ _ (by omega), List.set_append_right _ _ (by omega)]
      simp
    rw [e2]
    refine ⟨A', x', y' :: B, C, rfl, rfl, by simp at h2 ⊢; omega, by simpa using h3, ?_, ?_⟩
    · intro q hq
      rcases List.mem_cons.1 hq with rfl | hq
      · exact hl
      · exact h4 q hq
    · refine List.Perm.trans ?_ h5
      exact List.Perm.append_left A' (List.Perm.swap _ _ _)
theorem InvJ.stop {L D : List H4} {i j : Nat} (h : InvJ L D i j) (hs : j = 0 ∨ ∃ x y, D[j]? = some x ∧ D[j - 1]? = some y ∧ ordLt y x) : (D.take (i + 1)).Pairwise ordLt := by
  obtain ⟨A, x', B, C, rfl, h1, h2, h3, h4, h5⟩ := h
  have e : (A ++ x' :: (B ++ C)).take (i + 1) = A ++ x' :: B := by
    have : A ++ x' :: (B ++ C) = (A ++ x' :: B) ++ C := by simp
    rw [this, List.take_append_of_le_length (by simp; omega), List.take_of_length_le (by simp; omega)]
  rw [e]
  rw [List.pairwise_append] at h3 ⊢
  obtain ⟨g1, g2, g3⟩ := h3
  refine ⟨g1, List.pairwise_cons.2 ⟨h4, g2⟩, fun a ha b hb => ?_⟩
  rcases List.mem_cons.1 hb with rfl | hb
  · rcases List.eq_nil_or_concat A with rfl | ⟨A', y', rfl⟩
    · cases ha
    · have hj : A'.length + 1 = j := by simpa using h1
      subst hj
      rcases hs with hs | ⟨x, y, k1, k2, k3⟩
      · omega
      · have e3 : A'.concat y' ++ b :: (B ++ C) = A' ++ y' :: b :: (B ++ C) := by simp
        rw [e3] at k1 k2
        rw [List.getElem?_append_right (by omega)] at k1 k2
        simp at k1 k2
        subst k1; subst k2
        rw [List.concat_eq_append, List.mem_append] at ha
        rcases ha with ha | ha
        · rw [List.concat_eq_append, List.pairwise_append] at g1
          exact ordLt_trans (g1.2.2 a ha y' (by simp)) k3
        · rw [List.mem_singleton] at ha; subst ha; exact k3
  · exact g3 a ha b hb
def Apart (L : List H4) : Prop := L.Pairwise fun p q => ¬ (p.t = q.t ∧ p.r = q.r)
theorem Apart.perm {L D : List H4} (h : Apart L) (hp : D.Perm L) : Apart D := by
  unfold Apart at *
  rwa [hp.pairwise_iff (fun {x y} k e => k ⟨e.1.symm, e.2.symm⟩)]
theorem Apart.at {L : List H4} (h : Apart L) {i j : Nat} {p q : H4} (hij : i < j) (hi : L[i]? = some p) (hj : L[j]? = some q) : ¬ (p.t = q.t ∧ p.r = q.r) := by
  obtain ⟨i1, rfl⟩ := List.getElem?_eq_some_iff.1 hi
  obtain ⟨j1, rfl⟩ := List.getElem?_eq_some_iff.1 hj
  exact List.pairwise_iff_getElem.1 h i j i1 j1 hij
theorem sorted_apart {L : List H4} (h : L.Pairwise ltN) : Apart L := List.Pairwise.imp (fun k => ltN_irr k) h
/-! ## released in order -/
theorem lvl2 {t r : Int} (h1 : lvl t r = 2) : 0 ≤ t ∧ 0 ≤ r ∧ within t = true := by
  unfold lvl at h1
  split at h1
  · cases h1
  · split at h1
    · cases h1
    · split at h1
      · rename_i h2
        have := h2.1
        have := h2.2
        unfold within at *
        simp only [Bool.and_eq_true, decide_eq_true_eq] at *
        omega
      · cases h1
theorem anc_lvl {t r : Int} : ∀ a ∈ anc t r, lvl a.1 a.2 < lvl t r := by
  intro a ha
  unfold anc at ha
  split at ha
  · rename_i h
    rw [List.mem_singleton] at ha; subst ha
    rw [h]; decide
  · split at ha
    · rename_i h
      rw [h]
      simp only [List.mem_cons, List.not_mem_nil, or_false] at ha
      rcases ha with rfl | rfl
      · decide
      · obtain ⟨w1, w2, w3⟩ := lvl2 h
        show lvl t (-1) < 2
        unfold lvl; rw [if_neg (by omega), if_pos ⟨w3, rfl⟩]; decide
    · cases ha
def belowF (K : List H4) (t r : Int) : Bool := K.any fun x => (anc x.t x.r).any fun a => decide (a.1 = t ∧ a.2 = r)
theorem ord_drop {O K : List H4} {i : Nat} {p : H4} (s : St K) (hW : WF (modeOf K)) (hm : ∀ x, x ∈ K ↔ x ∈ O.drop i) (hO : O.Pairwise ordLt) (hp : O[i]? = some p) :
    belowF K p.t p.r = false ∧ modeOf K p.t p.r = p.m ∧ St (dropH K p.t p.r) ∧ WF (modeOf (dropH K p.t p.r)) ∧ (∀ x, x ∈ dropH K p.t p.r ↔ x ∈ O.drop (i + 1)) := by
  obtain ⟨hi, rfl⟩ := List.getElem?_eq_some_iff.1 hp
  have hdr := List.drop_eq_getElem_cons hi
  rw [hdr] at hm
  have hOd : (O.drop i).Pairwise ordLt := hO.drop
  rw [hdr, List.pairwise_cons] at hOd
  have hlv : ∀ x ∈ K, ∀ a ∈ anc x.t x.r, ¬ (a.1 = O[i].t ∧ a.2 = O[i].r) := by
    rintro x hx a ha ⟨e1, e2⟩
    have h1 := anc_lvl a ha
    rw [e1, e2] at h1
    rcases List.mem_cons.1 ((hm x).1 hx) with rfl | h2
    · omega
    · have := hOd.1 x h2
      unfold ordLt at this
      omega
  have hmem := hm O[i]
  obtain ⟨d1, _, d3⟩ := s.drop O[i].t O[i].r
  refine ⟨?_, modeOf_mem s.sorted (hmem.2 (.head _)), d1, ?_, fun x => ?_⟩
  · unfold belowF
    rw [List.any_eq_false]
    intro x hx
    rw [Bool.not_eq_true, List.any_eq_false]
    intro a ha
    simpa using hlv x hx a ha
  · rw [d3]
    intro t r a ha
    have hk : ∀ t r, kn (upF (modeOf K) O[i].t O[i].r 0 t r) = true := by
      intro t r
      by_cases h : t = O[i].t ∧ r = O[i].r
      · obtain ⟨rfl, rfl⟩ := h; rw [upF_same]; rfl
      · rw [upF_ne h]; exact s.kf t r
    by_cases h : t = O[i].t ∧ r = O[i].r
    · obtain ⟨rfl, rfl⟩ := h
      rw [upF_same]
      exact cov_zero (hk _ _)
    · rw [upF_ne h]
      rcases modeOf_cases K t r with ⟨q, hq, rfl, rfl⟩ | h2
      · rw [upF_ne (hlv q hq a ha)]
        exact hW q.t q.r a ha
      · rw [modeOf_none h2]
        exact cov_zero (hk _ _)
  · rw [mem_drop, hm]
    constructor
    · rintro ⟨h1, h2⟩
      rcases List.mem_cons.1 h1 with rfl | h1
      · exact absurd ⟨rfl, rfl⟩ h2
      · exact h1
    · intro h1
      refine ⟨.tail _ h1, fun e => ordLt_irr (hOd.1 x h1) ⟨e.1.symm, e.2.symm⟩⟩
/-! ## at most thirteen names -/
def in13 (t r : Int) : Prop := (t = -1 ∧ r = -1) ∨ (0 ≤ t ∧ t ≤ 2 ∧ -1 ≤ r ∧ r ≤ 2)
def code13 (p : H4) : Int := if p.t = -1 then 0 else 2 + 4 * p.t + p.r
theorem code_range {p : H4} (h : in13 p.t p.r) : 0 ≤ code13 p ∧ code13 p ≤ 12 := by unfold code13 in13 at *; split <;> omega
theorem code_lt {p q : H4} (hp : in13 p.t p.r) (hq : in13 q.t q.r) (h : ltN p q) : code13 p < code13 q := by unfold code13 in13 ltN at *; split <;> split <;> omega
theorem len13 : ∀ {H : List H4} {k : Int}, H.Pairwise ltN → (∀ p ∈ H, in13 p.t p.r ∧ k ≤ code13 p) → k ≤ 13 → (H.length : Int) ≤ 13 - k := by
  intro H
  induction H with
  | nil => intro k _ _ hk; simp; omega
  | cons a H ih =>
    intro k hs hk _
    rw [List.pairwise_cons] at hs
    have ha := hk a (.head _)
    have := code_range ha.1
    have := ih (k := code13 a + 1) hs.2 (fun p hp => ⟨(hk p (.tail _ hp)).1, by have := code_lt ha.1 (hk p (.tail _ hp)).1 (hs.1 p hp); omega⟩) (by omega)
    simp only [List.length_cons]
    omega
theorem nmF_in (n : Int) : in13 (nmF n).1 (nmF n).2 := by
  have h := pickM_range (n := n) (m := 13) (by omega)
  unfold nmF in13
  by_cases h1 : pickM n 13 = 0
  · rw [if_pos h1]; simp
  · rw [if_neg h1]
    by_cases h2 : pickM n 13 < 4
    · rw [if_pos h2]; simp only; omega
    · rw [if_neg h2]
      have e1 : Int.tdiv (pickM n 13 - 4) 3 = (pickM n 13 - 4) / 3 := Int.tdiv_eq_ediv_of_nonneg (by omega)
      have e2 : Int.tmod (pickM n 13 - 4) 3 = (pickM n 13 - 4) % 3 := Int.tmod_eq_emod_of_nonneg (by omega)
      rw [e1, e2]; simp only; omega
theorem plan_in {f : Int → Int → Int} {t r m : Int} (h : in13 t r) : ∀ p ∈ planF f t r m, in13 p.1 p.2.1 := by
  intro p hp
  unfold planF at hp
  split at hp
  · cases hp
  · rcases List.mem_append.1 hp with hp | hp
    · unfold upN at hp
      obtain ⟨a, ha, rfl⟩ := List.mem_map.1 hp
      have ha := (List.mem_filter.1 ha).1
      unfold anc at ha
      unfold in13 at *
      split at ha
      · rw [List.mem_singleton] at ha; subst ha; simp
      · split at ha
        · rename_i h2
          have := lvl2 h2
          simp only [List.mem_cons, List.not_mem_nil, or_false] at ha
          rcases ha with rfl | rfl <;> simp <;> omega
        · cases ha
    · rw [List.mem_singleton] at hp; subst hp; exact h
def In13 (H : List H4) : Prop := ∀ p ∈ H, in13 p.t p.r
theorem putN_in : ∀ {P : List N3} {H : List H4}, In13 H → (∀ p ∈ P, in13 p.1 p.2.1) → In13 (putN H P) := by
  intro P
  induction P with
  | nil => intro H h _; exact h
  | cons p P ih =>
    intro H h hp
    refine ih (fun x hx => ?_) fun q hq => hp q (.tail _ hq)
    rcases putH_mem hx with rfl | hx
    · exact hp p (.head _)
    · exact h x hx
theorem hadL_in {H : List H4} (h : In13 H) (w : N2) : In13 (hadL H w) := putN_in h (plan_in (nmF_in w.1))
theorem In13.len {H : List H4} (h : In13 H) (s : St H) : H.length ≤ 13 := by
  have := len13 (k := 0) s.sorted (fun p hp => ⟨h p hp, (code_range (h p hp)).1⟩) (by omega)
  omega
end Go.Proofs

namespace Go.Proofs
open Go.Vai Go.Clashes
theorem LeB.trans {b : Nat} {h1 h2 h3 : Heap} (l : LeB b h1 h2) (k : LeB b h2 h3) : LeB b h1 h3 :=
  ⟨Nat.le_trans l.nx k.nx, k.lo.trans l.lo, fun c hc hn => (k.get c (Nat.lt_of_lt_of_le hc l.nx) hn).trans (l.get c hc hn)⟩
theorem rd4 {h : Heap} {b : Nat} {D : List H4} {e : TypeId} {op : Bool} (hg : h.bl.get b = some (cellsO (D.flatMap enc4) e op)) {i : Nat} {p : H4} (hp : D[i]? = some p) (β : Type) (fl : β) (κ : List Value → β) :
    ldA fl (h.bl.get b) (i * 4) 4 κ = κ (enc4 p) := by
  obtain ⟨hi, rfl⟩ := List.getElem?_eq_some_iff.1 hp
  rw [hg]
  have h1 : Has (some (cellsO (D.flatMap enc4) e op)) 0 (D.flatMap enc4) := Has.all
  have hl := flat4 D
  have h2 := h1.sub (i * 4) 4 (by omega)
  rw [Nat.zero_add, flat_at enc4_len D i hi] at h2
  exact ldA_has h2 4 κ rfl
theorem isort_w (b : Nat) (L : List H4) (h : Heap) (fv : Value) (κ : Value → Heap → Prop) (hb : h.bl.get b = some (cellsO (L.flatMap enc4) 30 true)) (hbn : b < h.nx) (hbl : h.lo ≤ b) (hl1 : 1 ≤ L.length) (hl2 : L.length ≤ 100) (hd : Apart L)
    (hF : ∀ p q (h1 : Heap) (κ1 : Value → Heap → Prop), LeB b h h1 → (∀ h2, Le h1 h2 → κ1 (.int .i64 (cmpO p q)) h2) → CallV Try.prog fv [aggH p, aggH q] h1 κ1)
    (hk : ∀ (D : List H4) h', D.Perm L → D.Pairwise ordLt → LeB b h h' → h'.bl.get b = some (cellsO (D.flatMap enc4) 30 true) → κ (.tuple ⟨[]⟩) h') :
    CallW Try.prog 143 [.slice (some ⟨b, 0, none⟩) L.length openCap, .int .i64 0, .int .i64 (L.length : Int), fv] h κ := by
  refine callW_of mixed ?_
  rw [rs_143]
  simp (disch := first | omega | (simp only [Wx]; done) | (simp only [Wy]; done) | (simp only [Wv]; omega) | with_unfolding_all rfl) only [Wz, ptrTo, sliceTo]
  refine ⟨fun n l h1 => ∃ (i : Nat) (D : List H4), slot l 42 = .int .i64 (i : Int) ∧ 1 ≤ i ∧ i ≤ L.length ∧ n = L.length - i ∧ D.Perm L ∧ (D.take i).Pairwise ordLt ∧ LeB b h h1 ∧ h1.bl.get b = some (cellsO (D.flatMap enc4) 30 true),
    ⟨_, 1, L, rfl, Nat.le_refl _, hl1, rfl, List.Perm.refl _, ?_, LeB.of_le (Le.refl _), hb⟩, ?_⟩
  · match L, hl1 with
    | a :: L, _ => simp
  rintro n l h1 ⟨i, D, s1, hi1, hi, rfl, hp1, hs1, hle1, g1⟩
  have n1 := hle1.nx
  have l1 := hle1.lo
  have hlD : D.length = L.length := hp1.length_eq
  by_cases hlt : i < L.length
  · simp (disch := first | omega | (simp only [Wx]; done) | (simp only [Wy]; done) | (simp only [Wv]; omega) | with_unfolding_all rfl) only [Wz, ptrTo, sliceTo, s1]
    refine ⟨fun n l5 h5 => ∃ (j : Nat) (D : List H4), slot l5 35 = .int .i64 (j : Int) ∧ j ≤ i ∧ n = j ∧ InvJ L D i j ∧ LeB b h h5 ∧ h5.bl.get b = some (cellsO (D.flatMap enc4) 30 true),
      ⟨_, i, D, rfl, Nat.le_refl _, rfl, InvJ.start (by omega) hs1 hp1, hle1, g1⟩, ?_⟩
    rintro n l5 h5 ⟨j, E, s5, hj, rfl, hI, hle5, g5⟩
    have n5 := hle5.nx
    have l5' := hle5.lo
    have hpE : E.Perm L := by obtain ⟨_, _, _, _, _, _, _, _, _, h⟩ := hI; exact h
    have hlE : E.length = L.length := hpE.length_eq
    have done : (n = 0 ∨ ∃ x y, E[n]? = some x ∧ E[n - 1]? = some y ∧ ordLt y x) → ∀ h', LeB b h h' → h'.bl.get b = some (cellsO (E.flatMap enc4) 30 true) →
        ∃ m, m < L.length - i ∧ ∃ (i' : Nat) (D : List H4), Value.int .i64 ((i : Int) + 1) = .int .i64 (i' : Int) ∧ 1 ≤ i' ∧ i' ≤ L.length ∧ m = L.length - i' ∧ D.Perm L ∧ (D.take i').Pairwise ordLt ∧ LeB b h h' ∧ h'.bl.get b = some (cellsO (D.flatMap enc4) 30 true) := by
      intro hs h' e2 e3
      exact ⟨_, by omega, i + 1, E, rfl, by omega, by omega, rfl, hpE, hI.stop hs, e2, e3⟩
    by_cases hj0 : n = 0
    · subst hj0
      simp (disch := first | omega | (simp only [Wx]; done) | (simp only [Wy]; done) | (simp only [Wv]; omega) | with_unfolding_all rfl) only [Wz, ptrTo, sliceTo, rs_143_1, s5, s1]
      exact done (.inl rfl) _ hle5 g5
    · obtain ⟨j, rfl⟩ : ∃ j, n = j + 1 := ⟨n - 1, by omega⟩
      have e1 : ((j + 1 : Nat) : Int) - 1 = (j : Nat) := by omega
      obtain ⟨x, hx⟩ : ∃ x, E[j + 1]? = some x := ⟨_, List.getElem?_eq_getElem (by omega)⟩
      obtain ⟨y, hy⟩ : ∃ y, E[j]? = some y := ⟨_, List.getElem?_eq_getElem (by omega)⟩
      have r1 := rd4 g5 hx
      have r2 := rd4 g5 hy
      simp (disch := first | omega | (simp only [Wx]; done) | (simp only [Wy]; done) | (simp only [Wv]; omega) | with_unfolding_all rfl) only [Wz, ptrTo, sliceTo, rs_143_1, s5, e1, indexAddr_eq, r1, r2]
      refine hF x y h5 _ hle5 ?_
      intro h6 hle6
      have n6 := hle6.nx
      have l6 := hle6.lo
      have g6 := (hle6.get b (by omega)).trans g5
      have hall6 := hle5.trans (LeB.of_le hle6)
      have hdE := (hd.perm hpE).at (Nat.lt_succ_self j) hy hx
      by_cases hc : cmpO x y < 0
      · have ho1 := over_flat E (j + 1) y (by omega)
        have ho2 := over_flat (E.set (j + 1) y) j x (by simp; omega)
        have hf1 := flat4 E
        have hf2 := flat4 (E.set (j + 1) y)
        rw [List.length_set] at hf2
        have r3 := rd4 g6 hx
        have r4 := rd4 g6 hy
        simp only [enc4] at ho1 ho2
        simp (disch := first | omega | (simp only [Wx]; done) | (simp only [Wy]; done) | (simp only [Wv]; omega) | with_unfolding_all rfl) only [Wz, ptrTo, sliceTo, dec_t hc, rs_143_0, s5, e1, indexAddr_eq, r3, r4, enc4]
        simp (disch := first | omega | (simp only [Wx]; done) | (simp only [Wy]; done) | (simp only [Wv]; omega) | with_unfolding_all rfl) only [Wz, ptrTo, sliceTo, g6, ho1, ho2]
        refine ⟨_, by omega, j, (E.set (j + 1) y).set j x, rfl, by omega, rfl, hI.step hx hy ((cmpO_lt _ _).1 hc), ?_, rfl⟩
        exact hall6.trans (LeB.set (Le.refl h6) _)
      · simp (disch := first | omega | (simp only [Wx]; done) | (simp only [Wy]; done) | (simp only [Wv]; omega) | with_unfolding_all rfl) only [Wz, ptrTo, sliceTo, dec_f hc, s1]
        exact done (.inr ⟨x, y, hx, by simpa using hy, ordLt_tri (fun e => hdE ⟨e.1.symm, e.2.symm⟩) (fun e => hc ((cmpO_lt _ _).2 e))⟩) _ hall6 g6
  · simp (disch := first | omega | (simp only [Wx]; done) | (simp only [Wy]; done) | (simp only [Wv]; omega) | with_unfolding_all rfl) only [Wz, ptrTo, sliceTo, s1]
    have hiL : i = L.length := by omega
    subst hiL
    rw [List.take_of_length_le (by omega)] at hs1
    exact hk D h1 hp1 hs1 hle1 g1
/-! ## the comparing -/
theorem cmp98_w (p q : H4) (h : Heap) (κ : Value → Heap → Prop) (hlo : h.lo ≤ h.nx) (hk : ∀ h', Le h h' → κ (.int .i64 (cmpO p q)) h') : CallW Try.prog 98 [.agg ⟨[]⟩, aggH p, aggH q] h κ := by
  refine callW_of mixed ?_
  rw [rs_98]
  simp (disch := first | omega | (simp only [Wx]; done) | (simp only [Wy]; done) | (simp only [Wv]; omega) | with_unfolding_all rfl) only [Wz, ptrTo, sliceTo, aggH, enc4]
  have hle := (((Le.refl h).new (cellsO [] 118 false)).new (cellsO [.int .i64 p.x, .int .i64 p.t, .int .i64 p.r, .int .i64 p.m] 30 false)).new (cellsO [.int .i64 q.x, .int .i64 q.t, .int .i64 q.r, .int .i64 q.m] 30 false)
  have hk := hk _ hle
  have c1 := lvl_cases p.t p.r
  have c2 := lvl_cases q.t q.r
  refine level_w q.t q.r ?_
  simp (disch := first | omega | (simp only [Wx]; done) | (simp only [Wy]; done) | (simp only [Wv]; omega) | with_unfolding_all rfl) only [Wz, ptrTo, sliceTo]
  refine level_w p.t p.r ?_
  by_cases hz : lvl q.t q.r - lvl p.t p.r = 0
  · simp (disch := first | omega | (simp only [Wx]; done) | (simp only [Wy]; done) | (simp only [Wv]; omega) | with_unfolding_all rfl) only [Wz, ptrTo, sliceTo, dec_t hz]
    refine nmCompare_w _ _ _ _ ?_
    rw [cmpO, if_pos hz] at hk
    exact hk
  · simp (disch := first | omega | (simp only [Wx]; done) | (simp only [Wy]; done) | (simp only [Wv]; omega) | with_unfolding_all rfl) only [Wz, ptrTo, sliceTo, dec_f hz]
    rw [cmpO, if_neg hz] at hk
    exact hk
theorem cmp100_w (p q : H4) (b : Nat) (h : Heap) (κ : Value → Heap → Prop) (hlo : h.lo ≤ h.nx) (hb : b < h.nx) (hg : h.bl.get b = some (cellsO [.func (.func 98) ⟨[]⟩ ⟨[]⟩] 115 false)) (hk : ∀ h', Le h h' → κ (.int .i64 (cmpO p q)) h') : CallW Try.prog 100 [aggH p, aggH q, ptrTo b] h κ := by
  refine callW_of mixed ?_
  rw [rs_100]
  simp (disch := first | omega | (simp only [Wx]; done) | (simp only [Wy]; done) | (simp only [Wv]; omega) | with_unfolding_all rfl) only [Wz, ptrTo, sliceTo, aggH, enc4, hg]
  refine cmp98_w p q _ κ (by show h.lo ≤ h.nx + 1 + 1; omega) ?_
  intro h' hle
  exact hk h' ((((Le.refl h).new _).new _).trans hle)
theorem isort0_w (v fv : Value) (h : Heap) (κ : Value → Heap → Prop) (hk : κ (.tuple ⟨[]⟩) h) : CallW Try.prog 143 [v, .int .i64 0, .int .i64 0, fv] h κ := by
  refine callW_of mixed ?_
  rw [rs_143]
  simp (disch := first | omega | (simp only [Wx]; done) | (simp only [Wy]; done) | (simp only [Wv]; omega) | with_unfolding_all rfl) only [Wz, ptrTo, sliceTo]
  refine ⟨fun n l h1 => HE2 h h1 ∧ slot l 42 = .int .i64 1, ⟨0, rfl, rfl⟩, ?_⟩
  rintro n l h1 ⟨hE, s1⟩
  cases (show h = h1 from hE)
  simp (disch := first | omega | (simp only [Wx]; done) | (simp only [Wy]; done) | (simp only [Wv]; omega) | with_unfolding_all rfl) only [Wz, ptrTo, sliceTo, s1]
  exact hk
theorem stable_w (v fv : Value) (n : Nat) (hn : n < 20) (h : Heap) (κ : Value → Heap → Prop) (hk : CallW Try.prog 143 [v, .int .i64 0, .int .i64 (n : Int), fv] h fun _ h' => κ (.tuple ⟨[]⟩) h') : CallW Try.prog 134 [v, .int .i64 (n : Int), fv] h κ := by
  refine callW_of mixed ?_
  rw [rs_134]
  refine ⟨fun n l h1 => HE2 h h1 ∧ slot l 13 = .int .i64 20 ∧ slot l 9 = .int .i64 0, ⟨0, rfl, rfl, rfl⟩, ?_⟩
  rintro _ l h1 ⟨hE, s1, s2⟩
  cases (show h = h1 from hE)
  simp (disch := first | omega | (simp only [Wx]; done) | (simp only [Wy]; done) | (simp only [Wv]; omega) | with_unfolding_all rfl) only [Wz, ptrTo, sliceTo, s1, s2, rs_134_2]
  refine CallW.mono hk ?_
  intro _ h2 hk2
  refine ⟨fun n l h1 => HE2 h2 h1 ∧ slot l 38 = .int .i64 20, ⟨0, rfl, rfl⟩, ?_⟩
  rintro _ l h3 ⟨hE, s1⟩
  cases (show h2 = h3 from hE)
  simp (disch := first | omega | (simp only [Wx]; done) | (simp only [Wy]; done) | (simp only [Wv]; omega) | with_unfolding_all rfl) only [Wz, ptrTo, sliceTo, s1]
  exact hk2
/-! ## Order -/
theorem cells_fn (f : Fn) (a b : Array Value) : (Value.cells (.func f a b)).toList = [.func f a b] := id rfl
theorem ord1_w (p : H4) (hok : okN p.t p.r = true) (h : Heap) (κ : Value → Heap → Prop) (hlo : h.lo ≤ h.nx) (hk : ∀ h', Le h h' → κ (.bool false) h') : CallW Try.prog 96 [aggH p] h κ := by
  refine callW_of mixed ?_
  rw [rs_96]
  simp (disch := first | omega | (simp only [Wx]; done) | (simp only [Wy]; done) | (simp only [Wv]; omega) | with_unfolding_all rfl) only [Wz, ptrTo, sliceTo, aggH, enc4]
  refine check_w p.t p.r ?_
  simp (disch := first | omega | (simp only [Wx]; done) | (simp only [Wy]; done) | (simp only [Wv]; omega) | with_unfolding_all rfl) only [Wz, ptrTo, sliceTo, hok, if_true, dec_t (rfl : (0 : Int) = 0)]
  exact hk _ ((Le.refl h).new _)
theorem deleteNone_w (L : List H4) (h : Heap) (v fv : Value) (κ : Value → Heap → Prop) (hv : Sl enc4 h v L) (hlen : L.length ≤ 100000)
    (hF : ∀ p, p ∈ L → ∀ (h1 : Heap) (κ1 : Value → Heap → Prop), Le h h1 → (∀ h2, Le h1 h2 → κ1 (.bool false) h2) → CallV Try.prog fv [aggH p] h1 κ1)
    (hk : ∀ h', Le h h' → κ v h') : CallW Try.prog 90 [v, fv] h κ := by
  refine callW_of mixed ?_
  rw [rs_90]
  refine indexFunc_w L (fun _ => false) h v fv _ hv (by omega) hF ?_
  intro h1 hle1
  have e : L.findIdx? (fun _ => false) = none := by rw [List.findIdx?_eq_none_iff]; intro _ _; rfl
  simp only [e, optI]
  simp (disch := first | omega | (simp only [Wx]; done) | (simp only [Wy]; done) | (simp only [Wv]; omega) | with_unfolding_all rfl) only [Wz, ptrTo, sliceTo]
  exact hk h1 hle1
theorem order_w (L : List H4) (h : Heap) (v : Value) (κ : Value → Heap → Prop) (hv : Sl enc4 h v L) (hlen : L.length < 20) (hlo : h.lo ≤ h.nx) (hok : ∀ p ∈ L, okN p.t p.r = true) (hd : Apart L)
    (hk : ∀ (D : List H4) v' h', D.Perm L → D.Pairwise ordLt → Sl enc4 h' v' D → Le h h' → κ v' h') : CallW Try.prog 52 [v] h κ := by
  refine callW_of mixed ?_
  rw [rs_52]
  refine clone_w L h v _ hv (by omega) hlo ?_
  intro v2 h2 ho2 hle2
  have n2 := hle2.nx
  have l2 := hle2.lo
  refine deleteNone_w L h2 v2 _ _ ho2.sl (by omega) ?_ ?_
  · intro p hp h3 κ3 hle3 hk3
    have n3 := hle3.nx
    have l3 := hle3.lo
    simp (disch := first | omega | (simp only [Wx]; done) | (simp only [Wy]; done) | (simp only [Wv]; omega) | with_unfolding_all rfl) only [Wz, ptrTo, sliceTo, List.nil_append, List.append_nil]
    exact ord1_w p (hok p hp) h3 κ3 (by omega) hk3
  intro h3 hle3
  have n3 := hle3.nx
  have l3 := hle3.lo
  have ho3 := ho2.le hle3
  simp (disch := first | omega | (simp only [Wx]; done) | (simp only [Wy]; done) | (simp only [Wv]; omega) | with_unfolding_all rfl) only [Wz, ptrTo, sliceTo, cells_fn]
  obtain ⟨hA, eA⟩ : ∃ hA : Heap, hA = ⟨h3.nx + 1, h3.bl.upd h3.nx (cellsO [.func (.func 98) ⟨[]⟩ ⟨[]⟩] 115 false), h3.lo⟩ := ⟨_, rfl⟩
  have hleA : Le h3 hA := by subst eA; exact (Le.refl h3).new _
  have gA : hA.bl.get h3.nx = some (cellsO [.func (.func 98) ⟨[]⟩ ⟨[]⟩] 115 false) := by subst eA; exact T.get_upd_same _ _ _
  have nA : hA.nx = h3.nx + 1 := by subst eA; rfl
  have lA : hA.lo = h3.lo := by subst eA; rfl
  rw [← eA]
  clear eA
  have hallA := (hle2.trans hle3).trans hleA
  refine callW_of mixed ?_
  rw [rs_99]
  simp (disch := first | omega | (simp only [Wx]; done) | (simp only [Wy]; done) | (simp only [Wv]; omega) | with_unfolding_all rfl) only [Wz, ptrTo, sliceTo, ho3.sl.len]
  refine stable_w v2 _ L.length hlen hA _ ?_
  rcases ho3.le hleA with ⟨rfl, _⟩ | ⟨b, rfl, b1, b2, b3, b4⟩
  · refine isort0_w _ _ _ _ ?_
    exact hk [] v2 hA (List.Perm.refl _) List.Pairwise.nil (ho3.sl.le hleA) hallA
  · by_cases hl : L = []
    · subst hl
      refine isort0_w _ _ _ _ ?_
      exact hk [] _ hA (List.Perm.refl _) List.Pairwise.nil (Sl.nil _ _ _) hallA
    · have hl1 := List.length_pos_iff.2 hl
      have hbA : b < h3.nx := by
        rcases ho3 with ⟨e, _⟩ | ⟨b', e, _, c2, _⟩
        · exact absurd e hl
        · cases e; exact c2
      refine isort_w b L hA _ _ b4 b2 b3 (by omega) (by omega) hd ?_ ?_
      · intro p q h4 κ4 hle4 hk4
        have n4 := hle4.nx
        have l4 := hle4.lo
        simp (disch := first | omega | (simp only [Wx]; done) | (simp only [Wy]; done) | (simp only [Wv]; omega) | with_unfolding_all rfl) only [Wz, ptrTo, sliceTo, List.nil_append]
        exact cmp100_w p q h3.nx h4 κ4 (by omega) (by omega) ((hle4.get h3.nx (by omega) (by omega)).trans gA) hk4
      · intro D h4 p1 p2 hle4 g4
        have hlD := p1.length_eq
        have n4 := hle4.nx
        refine hk D _ h4 p1 p2 ⟨_, openCap, by rw [hlD], fun _ => ⟨b, 0, rfl, by omega, by rw [g4]; exact Has.all⟩⟩ (hle4.le hallA b1)
end Go.Proofs

namespace Go.Proofs
open Go.Vai Go.Clashes
/-- slices.Index at names -/
theorem indexN_w (L : List N2) (t r : Int) (h : Heap) (v : Value) (κ : Value → Heap → Prop) (hv : Sl enc2 h v L) (hlen : L.length ≤ 1000000)
    (hk : ∀ h', Le h h' → κ (.int .i64 (optI (L.findIdx? fun a => decide (t = a.1 ∧ r = a.2)))) h') : CallW Try.prog 135 [v, nmV t r] h κ := by
  refine callW_of mixed ?_
  rw [rs_135]
  simp (disch := first | omega | (simp only [Wx]; done) | (simp only [Wy]; done) | (simp only [Wv]; omega) | with_unfolding_all rfl) only [Wz, ptrTo, sliceTo, nmV, hv.len]
  obtain ⟨hA, eA⟩ : ∃ hA : Heap, hA = ⟨h.nx + 1, h.bl.upd h.nx (cellsO [.int .i64 t, .int .i64 r] 27 false), h.lo⟩ := ⟨_, rfl⟩
  have hleA : Le h hA := by subst eA; exact (Le.refl h).new _
  have gA : hA.bl.get h.nx = some (cellsO [.int .i64 t, .int .i64 r] 27 false) := by subst eA; exact T.get_upd_same _ _ _
  rw [← eA]
  clear eA
  refine ⟨fun n l h1 => HE2 hA h1 ∧ ∃ k : Nat, slot l 12 = .int .i64 (k : Int) ∧ k ≤ L.length ∧ n = L.length - k ∧ ∀ (j : Nat) p, j < k → L[j]? = some p → decide (t = p.1 ∧ r = p.2) = false, ⟨_, rfl, 0, rfl, Nat.zero_le _, rfl, by omega⟩, ?_⟩
  rintro n l h1 ⟨hE, k, hs, hkl, rfl, hno⟩
  cases (show hA = h1 from hE)
  by_cases hlt : k < L.length
  · obtain ⟨p, hp⟩ : ∃ p, L[k]? = some p := ⟨_, List.getElem?_eq_getElem hlt⟩
    obtain ⟨b, o, hb, hat, hld⟩ := ld2 (hv.le hleA) k hp
    by_cases hc : t = p.1 ∧ r = p.2
    · simp (disch := first | omega | (simp only [Wx]; done) | (simp only [Wy]; done) | (simp only [Wv]; omega) | with_unfolding_all rfl) only [Wz, ptrTo, sliceTo, hs, rs_135_0, gA, hat, hld, enc2, bin_eq27, dec_t hc]
      have : L.findIdx? (fun a => decide (t = a.1 ∧ r = a.2)) = some k := by
        rw [List.findIdx?_eq_some_iff_getElem]
        obtain ⟨hk1, hk2⟩ := List.getElem?_eq_some_iff.1 hp
        refine ⟨hk1, by rw [hk2]; exact decide_eq_true hc, fun j hj => ?_⟩
        have := hno j _ hj (List.getElem?_eq_getElem (by omega))
        rw [this]; simp
      have hk2 := hk hA hleA
      rw [this] at hk2
      exact hk2
    · simp (disch := first | omega | (simp only [Wx]; done) | (simp only [Wy]; done) | (simp only [Wv]; omega) | with_unfolding_all rfl) only [Wz, ptrTo, sliceTo, hs, rs_135_0, gA, hat, hld, enc2, bin_eq27, dec_f hc]
      refine ⟨_, by omega, rfl, k + 1, rfl, by omega, rfl, fun j q hj hq => ?_⟩
      rcases Nat.lt_or_ge j k with h4 | h4
      · exact hno j q h4 hq
      · obtain rfl : j = k := by omega
        rw [hp] at hq; cases hq; exact decide_eq_false hc
  · simp (disch := first | omega | (simp only [Wx]; done) | (simp only [Wy]; done) | (simp only [Wv]; omega) | with_unfolding_all rfl) only [Wz, ptrTo, sliceTo, hs]
    have : L.findIdx? (fun a => decide (t = a.1 ∧ r = a.2)) = none := by
      rw [List.findIdx?_eq_none_iff]
      intro p hp
      obtain ⟨j, hj, rfl⟩ := List.mem_iff_getElem.1 hp
      exact hno j _ (by omega) (List.getElem?_eq_getElem hj)
    have hk2 := hk hA hleA
    rw [this] at hk2
    exact hk2
theorem containsN_w (L : List N2) (t r : Int) (h : Heap) (v : Value) (κ : Value → Heap → Prop) (hv : Sl enc2 h v L) (hlen : L.length ≤ 1000000)
    (hk : ∀ h', Le h h' → κ (.bool (L.any fun a => decide (t = a.1 ∧ r = a.2))) h') : CallW Try.prog 104 [v, nmV t r] h κ := by
  refine callW_of mixed ?_
  rw [rs_104]
  simp (disch := first | omega | (simp only [Wx]; done) | (simp only [Wy]; done) | (simp only [Wv]; omega) | with_unfolding_all rfl) only [Wz, ptrTo, sliceTo, nmV]
  have hle := (Le.refl h).new (cellsO [.int .i64 t, .int .i64 r] 27 false)
  refine indexN_w L t r _ v _ (hv.le hle) hlen ?_
  intro h' hl
  have := hk h' (hle.trans hl)
  rw [← optI_any] at this
  by_cases h0 : optI (L.findIdx? fun a => decide (t = a.1 ∧ r = a.2)) < 0
  · simp (disch := first | omega | (simp only [Wx]; done) | (simp only [Wy]; done) | (simp only [Wv]; omega) | with_unfolding_all rfl) only [Wz, ptrTo, sliceTo]
    rwa [dec_f (by omega)] at this
  · simp (disch := first | omega | (simp only [Wx]; done) | (simp only [Wy]; done) | (simp only [Wv]; omega) | with_unfolding_all rfl) only [Wz, ptrTo, sliceTo]
    rwa [dec_t (by omega)] at this
theorem containsFuncH_w (L : List H4) (F : H4 → Bool) (h : Heap) (v fv : Value) (κ : Value → Heap → Prop) (hv : Sl enc4 h v L) (hlen : L.length ≤ 1000000)
    (hF : ∀ p, p ∈ L → ∀ (h1 : Heap) (κ1 : Value → Heap → Prop), Le h h1 → (∀ h2, Le h1 h2 → κ1 (.bool (F p)) h2) → CallV Try.prog fv [aggH p] h1 κ1)
    (hk : ∀ h', Le h h' → κ (.bool (L.any F)) h') : CallW Try.prog 102 [v, fv] h κ := by
  refine callW_of mixed ?_
  rw [rs_102]
  refine indexFunc_w L F h v fv _ hv hlen hF ?_
  intro h' hl
  have := hk h' hl
  rw [← optI_any] at this
  by_cases h0 : optI (L.findIdx? F) < 0
  · simp (disch := first | omega | (simp only [Wx]; done) | (simp only [Wy]; done) | (simp only [Wv]; omega) | with_unfolding_all rfl) only [Wz, ptrTo, sliceTo]
    rwa [dec_f (by omega)] at this
  · simp (disch := first | omega | (simp only [Wx]; done) | (simp only [Wy]; done) | (simp only [Wv]; omega) | with_unfolding_all rfl) only [Wz, ptrTo, sliceTo]
    rwa [dec_t (by omega)] at this
theorem below1_w (t r : Int) (p : H4) (b : Nat) (h : Heap) (κ : Value → Heap → Prop) (hlo : h.lo ≤ h.nx) (hb : b < h.nx) (hg : h.bl.get b = some (cellsO [.int .i64 t, .int .i64 r] 27 false))
    (hk : ∀ h', Le h h' → κ (.bool ((anc p.t p.r).any fun a => decide (t = a.1 ∧ r = a.2))) h') : CallW Try.prog 103 [aggH p, ptrTo b] h κ := by
  refine callW_of mixed ?_
  rw [rs_103]
  simp (disch := first | omega | (simp only [Wx]; done) | (simp only [Wy]; done) | (simp only [Wv]; omega) | with_unfolding_all rfl) only [Wz, ptrTo, sliceTo, aggH, enc4, hg]
  obtain ⟨hA, eA⟩ : ∃ hA : Heap, hA = ⟨h.nx + 1, h.bl.upd h.nx (cellsO [.int .i64 p.x, .int .i64 p.t, .int .i64 p.r, .int .i64 p.m] 30 false), h.lo⟩ := ⟨_, rfl⟩
  have hleA : Le h hA := by subst eA; exact (Le.refl h).new _
  have nA : hA.nx = h.nx + 1 := by subst eA; rfl
  have lA : hA.lo = h.lo := by subst eA; rfl
  rw [← eA]
  clear eA
  refine anc_w p.t p.r hA _ (by omega) ?_
  intro u h2 hu _ hle2
  have g2 := (hle2.get b (by omega)).trans ((hleA.get b hb).trans hg)
  have hl := anc_len p.t p.r
  simp (disch := first | omega | (simp only [Wx]; done) | (simp only [Wy]; done) | (simp only [Wv]; omega) | with_unfolding_all rfl) only [Wz, ptrTo, sliceTo, g2]
  refine containsN_w _ t r h2 u _ hu (by omega) ?_
  intro h3 hle3
  exact hk h3 ((hleA.trans hle2).trans hle3)
theorem below_w (L : List H4) (t r : Int) (h : Heap) (v : Value) (κ : Value → Heap → Prop) (hv : Sl enc4 h v L) (hlen : L.length ≤ 100000) (hlo : h.lo ≤ h.nx)
    (hk : ∀ h', Le h h' → κ (.bool (belowF L t r)) h') : CallW Try.prog 54 [v, nmV t r] h κ := by
  refine callW_of mixed ?_
  rw [rs_54]
  simp (disch := first | omega | (simp only [Wx]; done) | (simp only [Wy]; done) | (simp only [Wv]; omega) | with_unfolding_all rfl) only [Wz, ptrTo, sliceTo, nmV]
  have hle := (Le.refl h).new (cellsO [.int .i64 t, .int .i64 r] 27 false)
  have e : belowF L t r = L.any fun p => (anc p.t p.r).any fun a => decide (t = a.1 ∧ r = a.2) := by
    unfold belowF
    congr 1; funext p; congr 1; funext a
    exact decide_eq_decide.2 ⟨fun h => ⟨h.1.symm, h.2.symm⟩, fun h => ⟨h.1.symm, h.2.symm⟩⟩
  rw [e] at hk
  refine containsFuncH_w L (fun p => (anc p.t p.r).any fun a => decide (t = a.1 ∧ r = a.2)) _ v _ _ (hv.le hle) (by omega) ?_ ?_
  · intro p hp h3 κ3 hle3 hk3
    have n3 := hle3.nx
    have l3 := hle3.lo
    have n3' : h.nx + 1 ≤ h3.nx := n3
    have l3' : h3.lo = h.lo := l3
    simp (disch := first | omega | (simp only [Wx]; done) | (simp only [Wy]; done) | (simp only [Wv]; omega) | with_unfolding_all rfl) only [Wz, ptrTo, sliceTo, List.nil_append, List.cons_append]
    exact below1_w t r p h.nx h3 κ3 (by omega) (by omega) ((hle3.get h.nx (Nat.lt_succ_self _)).trans (T.get_upd_same _ _ _)) hk3
  · intro h3 hle3
    exact hk h3 (hle.trans hle3)
end Go.Proofs

namespace Go.Proofs
open Go.Vai Go.Clashes
theorem ord_step (l46 : List Value) (v41 : Value) (N45 : List Value → Heap → Prop) (v47 v48 v49 v50 v51 v53 v55 v57 v59 v61 v63 v76 v65 v67 v69 v71 v73 v78 v80 v82 v84 v86 v88 v90 v92 v94 v107 v96 v98 v100 v102 v104 v109 v111 v113 v115 v117 v119 v121 v123 v125 v127 v129 v131 v133 v135 v137 v139 v141 v143 v144 : Value) (h : Heap) (O K : List H4) (i : Nat) (p : H4) (hO : Sl enc4 h v41 O) (hp : O[i]? = some p) (s82 : Sl enc4 h (slot l46 82) K) (s89 : slot l46 89 = .int .i64 (i : Int))
    (hbe : belowF K p.t p.r = false) (hmo : modeOf K p.t p.r = p.m) (hwh : wholeF (modeOf (dropH K p.t p.r)) (dropH K p.t p.r) = true) (hlK : K.length ≤ 1000) (hi : i ≤ 1000) (hlo : h.lo ≤ h.nx)
    (hN : ∀ l' h' v', slot l' 89 = .int .i64 ((i : Int) + 1) → slot l' 82 = v' → Sl enc4 h' v' (dropH K p.t p.r) → Le h h' → N45 l' h') :
    rs_9_2 l46 v41 N45 v47 v48 v49 v50 v51 v53 v55 v57 v59 v61 v63 v76 v65 v67 v69 v71 v73 v78 v80 v82 v84 v86 v88 v90 v92 v94 v107 v96 v98 v100 v102 v104 v109 v111 v113 v115 v117 v119 v121 v123 v125 v127 v129 v131 v133 v135 v137 v139 v141 v143 v144 h IsTrue := by
  obtain ⟨b, o, hb, hat, hld⟩ := ld4 hO i hp
  have qO := slN_same hO (ne_of_get hp)
  simp (disch := first | omega | (simp only [Wx]; done) | (simp only [Wy]; done) | (simp only [Wv]; omega) | with_unfolding_all rfl) only [Wz, ptrTo, sliceTo, rs_9_2, s89, hat, hld]
  refine below_w K p.t p.r h _ _ s82 (by omega) hlo ?_
  intro h2 hle2
  have n2 := hle2.nx
  have l2 := hle2.lo
  have e2 := hle2.get b hb
  simp (disch := first | omega | (simp only [Wx]; done) | (simp only [Wy]; done) | (simp only [Wv]; omega) | with_unfolding_all rfl) only [Wz, ptrTo, sliceTo, hbe, s89, hat, hld, e2]
  refine mode_w K p.t p.r h2 _ _ (s82.le hle2) (by omega) (by omega) ?_
  intro h3 hle3
  have n3 := hle3.nx
  have l3 := hle3.lo
  have e3 := (hle3.get b (by omega)).trans e2
  simp (disch := first | omega | (simp only [Wx]; done) | (simp only [Wy]; done) | (simp only [Wv]; omega) | with_unfolding_all rfl) only [Wz, ptrTo, sliceTo, hmo, s89, hat, hld, e3, qO, dec_t (rfl : p.m = p.m), rs_9_1]
  refine drop_w K p.t p.r h3 _ _ ((s82.le hle2).le hle3) (by omega) (by omega) ?_
  intro v4 h4 hv4 hle4
  have n4 := hle4.nx
  have l4 := hle4.lo
  have hdl : (dropH K p.t p.r).length ≤ K.length := List.length_filter_le _ _
  refine whole_w _ h4 v4 _ hv4 (by omega) (by omega) ?_
  intro h5 hle5
  simp (disch := first | omega | (simp only [Wx]; done) | (simp only [Wy]; done) | (simp only [Wv]; omega) | with_unfolding_all rfl) only [Wz, ptrTo, sliceTo, hwh, s89]
  exact hN _ _ v4 rfl rfl (hv4.le hle5) (((hle2.trans hle3).trans hle4).trans hle5)
set_option maxHeartbeats 4000000 in
theorem cacheOrders_law (L : List N2) (h : Heap) (v : Value) (hv : Sl enc2 h v L) (hlo : h.lo ≤ h.nx) : CallW Try.prog 9 [v] h IsTrue := by
  refine callW_of mixed ?_
  rw [rs_9]
  refine closedW mixed lives17 ?_
  by_cases hn : L.length > 30
  · simp (disch := first | omega | (simp only [Wx]; done) | (simp only [Wy]; done) | (simp only [Wv]; omega) | with_unfolding_all rfl) only [Wz, ptrTo, sliceTo, hv.len, rs_9_7]
    rfl
  simp (disch := first | omega | (simp only [Wx]; done) | (simp only [Wy]; done) | (simp only [Wv]; omega) | with_unfolding_all rfl) only [Wz, ptrTo, sliceTo, hv.len, rs_9_7]
  refine ⟨fun n l h1 => ∃ (i : Nat) (H : List H4), slot l 42 = .int .i64 (i : Int) ∧ i ≤ L.length ∧ n = L.length - i ∧ Le h h1 ∧ Sl enc4 h1 (slot l 36) H ∧ veq 8 (slot l 36) (slot l 36) = true ∧ St H ∧ WF (modeOf H) ∧ In13 H ∧ H.length ≤ 3 * i,
    ⟨_, 0, [], rfl, Nat.zero_le _, rfl, Le.refl _, Sl.nil _ _ _, veq_sln _ _, St.nil, wf_nil, (fun p hp => by cases hp), Nat.zero_le _⟩, ?_⟩
  rintro n l h1 ⟨i, H, s1, hi, rfl, hle1, hv1, q1, st1, wf1, in1, len1⟩
  have n1 := hle1.nx
  have l1 := hle1.lo
  by_cases hlt : i < L.length
  · obtain ⟨w, hw⟩ : ∃ w, L[i]? = some w := ⟨_, List.getElem?_eq_getElem hlt⟩
    obtain ⟨b, o, hb, hat, hld⟩ := ld2 (hv.le hle1) i hw
    have hqv := slN_same hv (ne_of_get hw)
    simp (disch := first | omega | (simp only [Wx]; done) | (simp only [Wy]; done) | (simp only [Wv]; omega) | with_unfolding_all rfl) only [Wz, ptrTo, sliceTo, hv.len, s1, rs_9_5, hat, hld, enc2]
    refine name13_w _ ?_
    simp (disch := first | omega | (simp only [Wx]; done) | (simp only [Wy]; done) | (simp only [Wv]; omega) | with_unfolding_all rfl) only [Wz, ptrTo, sliceTo, hqv, q1, s1, hat, hld]
    refine mode6_w _ ?_
    refine rplan_w H _ _ _ h1 _ _ hv1 (by omega) (by omega) ?_
    intro u h2 hu qu hle2
    have hPl := planF_len (modeOf H) (nmF w.1).1 (nmF w.1).2 (mdF w.2)
    obtain ⟨t1, t2, t3, t4⟩ := hadL_of st1 wf1 w
    have t5 := hadL_in in1 w
    have hh : hadL H w = putN H (planF (modeOf H) (nmF w.1).1 (nmF w.1).2 (mdF w.2)) := rfl
    obtain ⟨P, eP⟩ : ∃ P, planF (modeOf H) (nmF w.1).1 (nmF w.1).2 (mdF w.2) = P := ⟨_, rfl⟩
    rw [eP] at hu hPl hh
    have n2 := hle2.nx
    have l2 := hle2.lo
    refine ⟨fun n l h3 => ∃ (k : Nat) (K : List H4), slot l 20 = .int .i64 (k : Int) ∧ k ≤ P.length ∧ n = P.length - k ∧ Le h2 h3 ∧ Sl enc4 h3 (slot l 17) K ∧ veq 8 (slot l 17) (slot l 17) = true ∧ K.length ≤ H.length + k ∧ putN K (P.drop k) = putN H P,
      ⟨_, 0, H, rfl, Nat.zero_le _, rfl, Le.refl _, hv1.le hle2, q1, Nat.le_refl _, rfl⟩, ?_⟩
    rintro n l3 h3 ⟨k, K, s3, hk3, rfl, hle3, hv3, q3, len3, e3⟩
    have n3 := hle3.nx
    have l3' := hle3.lo
    by_cases hlt : k < P.length
    · obtain ⟨p, hp⟩ : ∃ p, P[k]? = some p := ⟨_, List.getElem?_eq_getElem hlt⟩
      obtain ⟨b, o, hb, hat, hld⟩ := ld3 (hu.le hle3) k hp
      have hdr : P.drop k = p :: P.drop (k + 1) := by
        rw [List.drop_eq_getElem_cons hlt]
        rw [List.getElem?_eq_getElem hlt] at hp
        rw [Option.some.inj hp]
      rw [hdr] at e3
      simp (disch := first | omega | (simp only [Wx]; done) | (simp only [Wy]; done) | (simp only [Wv]; omega) | with_unfolding_all rfl) only [Wz, ptrTo, sliceTo, hu.len, s3, rs_9_0, hat, hld]
      refine rput_w K ⟨1, p.1, p.2.1, p.2.2⟩ h3 _ _ hv3 (by omega) (by omega) ?_
      intro v4 h4 hv4 hle4
      rw [putR_all] at hv4
      have := putH_len K ⟨1, p.1, p.2.1, p.2.2⟩
      exact ⟨_, by omega, k + 1, _, rfl, by omega, rfl, hle3.trans hle4, hv4, slN_same hv4 (by rw [← putR_all]; exact putR_ne _ _), by omega, e3⟩
    · simp (disch := first | omega | (simp only [Wx]; done) | (simp only [Wy]; done) | (simp only [Wv]; omega) | with_unfolding_all rfl) only [Wz, ptrTo, sliceTo, hu.len, s3, s1]
      have e : P.drop k = [] := List.drop_of_length_le (by omega)
      rw [e] at e3
      have e3 : K = hadL H w := by rw [hh]; exact e3
      rw [e3] at hv3
      exact ⟨_, by omega, i + 1, _, rfl, by omega, rfl, (hle1.trans hle2).trans hle3, hv3, q3, t1, t2, t5, by omega⟩
  · have hl13 := in1.len st1
    simp (disch := first | omega | (simp only [Wx]; done) | (simp only [Wy]; done) | (simp only [Wv]; omega) | with_unfolding_all rfl) only [Wz, ptrTo, sliceTo, hv.len, s1, rs_9_6]
    refine order_w H h1 _ _ hv1 (by omega) (by omega) (fun p hp => (st1.ok p hp).1) (sorted_apart st1.sorted) ?_
    intro O vo h2 hP hS hvo hle2
    have n2 := hle2.nx
    have l2 := hle2.lo
    have hlO := hP.length_eq
    simp (disch := first | omega | (simp only [Wx]; done) | (simp only [Wy]; done) | (simp only [Wv]; omega) | with_unfolding_all rfl) only [Wz, ptrTo, sliceTo, hvo.len, hv1.len, dec_t (show (O.length : Int) = H.length by omega)]
    refine ⟨fun n l h3 => ∃ (i : Nat) (K : List H4), slot l 89 = .int .i64 (i : Int) ∧ i ≤ O.length ∧ n = O.length - i ∧ Le h2 h3 ∧ Sl enc4 h3 (slot l 82) K ∧ St K ∧ WF (modeOf K) ∧ K.length ≤ 13 ∧ ∀ x, x ∈ K ↔ x ∈ O.drop i,
      ⟨_, 0, H, rfl, Nat.zero_le _, rfl, Le.refl _, hv1.le hle2, st1, wf1, hl13, fun x => (hP.mem_iff).symm⟩, ?_⟩
    rintro n l3 h3 ⟨i, K, s3, hi3, rfl, hle3, hv3, st3, wf3, len3, me3⟩
    have n3 := hle3.nx
    have l3' := hle3.lo
    by_cases hlt : i < O.length
    · obtain ⟨p, hp⟩ : ∃ p, O[i]? = some p := ⟨_, List.getElem?_eq_getElem hlt⟩
      obtain ⟨d1, d2, d3, d4, d5⟩ := ord_drop st3 wf3 me3 hS hp
      have hdl : (dropH K p.t p.r).length ≤ K.length := List.length_filter_le _ _
      have rest : ∀ (h4 : Heap), Le h3 h4 → ∀ N45 v47 v48 v49 v50 v51 v53 v55 v57 v59 v61 v63 v76 v65 v67 v69 v71 v73 v78 v80 v82 v84 v86 v88 v90 v92 v94 v107 v96 v98 v100 v102 v104 v109 v111 v113 v115 v117 v119 v121 v123 v125 v127 v129 v131 v133 v135 v137 v139 v141 v143 v144, (∀ l' h' v', slot l' 89 = .int .i64 ((i : Int) + 1) → slot l' 82 = v' → Sl enc4 h' v' (dropH K p.t p.r) → Le h4 h' → N45 l' h') → rs_9_2 l3 vo N45 v47 v48 v49 v50 v51 v53 v55 v57 v59 v61 v63 v76 v65 v67 v69 v71 v73 v78 v80 v82 v84 v86 v88 v90 v92 v94 v107 v96 v98 v100 v102 v104 v109 v111 v113 v115 v117 v119 v121 v123 v125 v127 v129 v131 v133 v135 v137 v139 v141 v143 v144 h4 IsTrue := by
        intro h4 hle4 N45 v47 v48 v49 v50 v51 v53 v55 v57 v59 v61 v63 v76 v65 v67 v69 v71 v73 v78 v80 v82 v84 v86 v88 v90 v92 v94 v107 v96 v98 v100 v102 v104 v109 v111 v113 v115 v117 v119 v121 v123 v125 v127 v129 v131 v133 v135 v137 v139 v141 v143 v144 hN
        have n4 := hle4.nx
        have l4 := hle4.lo
        exact ord_step l3 vo N45 v47 v48 v49 v50 v51 v53 v55 v57 v59 v61 v63 v76 v65 v67 v69 v71 v73 v78 v80 v82 v84 v86 v88 v90 v92 v94 v107 v96 v98 v100 v102 v104 v109 v111 v113 v115 v117 v119 v121 v123 v125 v127 v129 v131 v133 v135 v137 v139 v141 v143 v144 h4 O K i p ((hvo.le hle3).le hle4) hp (hv3.le hle4) s3 d1 d2 (d3.whole d4) (by omega) (by omega) (by omega) hN
      have fin : ∀ (h4 : Heap), Le h3 h4 → ∀ (l' : List Value) (h' : Heap) (v' : Value), slot l' 89 = .int .i64 ((i : Int) + 1) → slot l' 82 = v' → Sl enc4 h' v' (dropH K p.t p.r) → Le h4 h' →
          ∃ m, m < O.length - i ∧ ∃ (i : Nat) (K : List H4), slot l' 89 = .int .i64 (i : Int) ∧ i ≤ O.length ∧ m = O.length - i ∧ Le h2 h' ∧ Sl enc4 h' (slot l' 82) K ∧ St K ∧ WF (modeOf K) ∧ K.length ≤ 13 ∧ ∀ x, x ∈ K ↔ x ∈ O.drop i := by
        intro h4 hle4 l' h' v' e1 e2 e3 e4
        subst e2
        exact ⟨_, by omega, i + 1, _, e1, by omega, rfl, hle3.trans (hle4.trans e4), e3, d3, d4, by omega, d5⟩
      obtain ⟨b, o, hb, hat, hld⟩ := ld4 (hvo.le hle3) i hp
      have qO := slN_same hvo (ne_of_get hp)
      by_cases h0 : i = 0
      · subst h0
        simp (disch := first | omega | (simp only [Wx]; done) | (simp only [Wy]; done) | (simp only [Wv]; omega) | with_unfolding_all rfl) only [Wz, ptrTo, sliceTo, hvo.len, s3, rs_9_4, rs_9_3]
        refine rest h3 (Le.refl _) _ _ _ _ _ _ _ _ _ _ _ _ _ _ _ _ _ _ _ _ _ _ _ _ _ _ _ _ _ _ _ _ _ _ _ _ _ _ _ _ _ _ _ _ _ _ _ _ _ _ _ _ ?_
        exact fin h3 (Le.refl _)
      · obtain ⟨j, rfl⟩ : ∃ j, i = j + 1 := ⟨i - 1, by omega⟩
        have e1 : ((j + 1 : Nat) : Int) - 1 = (j : Nat) := by omega
        obtain ⟨x, hx⟩ : ∃ x, O[j]? = some x := ⟨_, List.getElem?_eq_getElem (by omega)⟩
        obtain ⟨b', o', hb', hat', hld'⟩ := ld4 (hvo.le hle3) j hx
        have hxp : ordLt x p := by
          obtain ⟨a1, rfl⟩ := List.getElem?_eq_some_iff.1 hx
          obtain ⟨a2, rfl⟩ := List.getElem?_eq_some_iff.1 hp
          exact List.pairwise_iff_getElem.1 hS j (j + 1) a1 a2 (by omega)
        simp (maxSteps := 3000000) (disch := first | omega | (simp only [Wx]; done) | (simp only [Wy]; done) | (simp only [Wv]; omega) | with_unfolding_all rfl) only [Wz, ptrTo, sliceTo, hvo.len, s3, rs_9_4, rs_9_3, e1, hat, hld, hat', hld']
        refine rlevel_w _ _ ?_
        simp (disch := first | omega | (simp only [Wx]; done) | (simp only [Wy]; done) | (simp only [Wv]; omega) | with_unfolding_all rfl) only [Wz, ptrTo, sliceTo, s3, hat, hld, qO]
        refine rlevel_w _ _ ?_
        have hnl : ¬ lvl x.t x.r < lvl p.t p.r := by unfold ordLt at hxp; omega
        simp (disch := first | omega | (simp only [Wx]; done) | (simp only [Wy]; done) | (simp only [Wv]; omega) | with_unfolding_all rfl) only [Wz, ptrTo, sliceTo, dec_f hnl, s3, e1, hat, hld, hat', hld']
        refine rlevel_w _ _ ?_
        simp (disch := first | omega | (simp only [Wx]; done) | (simp only [Wy]; done) | (simp only [Wv]; omega) | with_unfolding_all rfl) only [Wz, ptrTo, sliceTo, s3, hat, hld, qO]
        refine rlevel_w _ _ ?_
        by_cases heq : lvl x.t x.r = lvl p.t p.r
        · have hlt2 : ltN x p := by
            rcases hxp with h9 | h9
            · omega
            · exact h9.2
          have hc := rCmp_lt hlt2
          simp (disch := first | omega | (simp only [Wx]; done) | (simp only [Wy]; done) | (simp only [Wv]; omega) | with_unfolding_all rfl) only [Wz, ptrTo, sliceTo, dec_t heq, s3, e1, hat, hld, hat', hld']
          refine rCompare_w _ _ _ _ ?_
          simp (disch := first | omega | (simp only [Wx]; done) | (simp only [Wy]; done) | (simp only [Wv]; omega) | with_unfolding_all rfl) only [Wz, ptrTo, sliceTo, hc]
          refine rest h3 (Le.refl _) _ _ _ _ _ _ _ _ _ _ _ _ _ _ _ _ _ _ _ _ _ _ _ _ _ _ _ _ _ _ _ _ _ _ _ _ _ _ _ _ _ _ _ _ _ _ _ _ _ _ _ _ ?_
          exact fin h3 (Le.refl _)
        · simp (disch := first | omega | (simp only [Wx]; done) | (simp only [Wy]; done) | (simp only [Wv]; omega) | with_unfolding_all rfl) only [Wz, ptrTo, sliceTo, dec_f heq]
          refine rest h3 (Le.refl _) _ _ _ _ _ _ _ _ _ _ _ _ _ _ _ _ _ _ _ _ _ _ _ _ _ _ _ _ _ _ _ _ _ _ _ _ _ _ _ _ _ _ _ _ _ _ _ _ _ _ _ _ ?_
          exact fin h3 (Le.refl _)
    · have hKn : K = [] := by
        cases K with
        | nil => rfl
        | cons a K =>
          have := (me3 a).1 (.head _)
          rw [List.drop_of_length_le (by omega)] at this
          cases this
      subst hKn
      simp (disch := first | omega | (simp only [Wx]; done) | (simp only [Wy]; done) | (simp only [Wv]; omega) | with_unfolding_all rfl) only [Wz, ptrTo, sliceTo, hvo.len, s3, rs_9_4, hv3.len, List.length_nil]
      rfl
end Go.Proofs
