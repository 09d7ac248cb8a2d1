/-
  PROVED HERE: a part of the proof, by a calculus of weakest conditions over an abstract heap (J13, J14).
-/
import Derived.Test.YtlmkplcfmngigaaJS
set_option linter.unusedVariables false
set_option linter.unusedSimpArgs false
set_option maxRecDepth 100000
namespace Go.Proofs
open Go.Vai Go.Clashes
def atK (a : A6) (p : H4) : Prop := p.x = a.x ∧ p.t = a.t ∧ p.r = a.r
instance (a : A6) (p : H4) : Decidable (atK a p) := inferInstanceAs (Decidable (_ ∧ _))
theorem modeA_congr {L M : List H4} (hL : L.Pairwise ltA) (hM : M.Pairwise ltA) {x t r : Int} (h : ∀ p : H4, p.x = x ∧ p.t = t ∧ p.r = r → (p ∈ L ↔ p ∈ M)) : modeA L x t r = modeA M x t r := by
  rcases modeA_cases L x t r with ⟨p, hp, e⟩ | hn
  · rw [modeA_mem hL hp e, modeA_mem hM ((h p e).1 hp) e]
  · rw [modeA_none hn, modeA_none fun p hp e => hn p ((h p e).2 hp) e]
theorem hasA_congr {L M : List H4} {x t r : Int} (h : ∀ p : H4, p.x = x ∧ p.t = t ∧ p.r = r → (p ∈ L ↔ p ∈ M)) : hasA L x t r = hasA M x t r := by
  rw [Bool.eq_iff_iff, hasA_iff, hasA_iff]
  constructor
  · rintro ⟨p, hp, e⟩; exact ⟨p, (h p e).1 hp, e⟩
  · rintro ⟨p, hp, e⟩; exact ⟨p, (h p e).2 hp, e⟩
/-- what is behind a granted act, but for a release of all -/
theorem mem_next {L : List H4} {a : A6} (s : L.Pairwise ltA) (hc : a.c = 1) (h3 : a.k ≠ 3) (p : H4) : p ∈ nextA L a ↔ (a.k = 1 ∧ p = wantA L a.x a.t a.r a.m) ∨ (p ∈ L ∧ ¬ atK a p) := by
  unfold nextA
  rw [if_pos hc]
  by_cases h1 : a.k = 1
  · rw [if_pos h1, mem_setA s]
    simp only [h1, true_and]
    rfl
  · rw [if_neg h1, List.mem_filter]
    simp only [h1, false_and, false_or]
    have : (!goneA a p) = true ↔ ¬ atK a p := by
      have e : goneA a p = decide (atK a p) := by
        rw [Bool.eq_iff_iff, decide_eq_true_iff]; simp [goneA, h3, atK]
      rw [e]; simp
    rw [this]
theorem codes_one {L : List H4} {a : A6} (h3 : a.k ≠ 3) : 1 ∈ codesA L a ↔ StA L ∧ ((a.k = 1 ∧ mayA L a.x a.t a.r a.m = true) ∨ ((a.k = 2 ∨ a.k = 4) ∧ hasA L a.x a.t a.r = true)) := by
  unfold codesA
  by_cases hs : chkA L = true
  · have st := (chkA_iff L).1 hs
    rw [if_pos hs]
    simp only [st, true_and]
    by_cases h1 : a.k = 1
    · rw [if_pos h1, acq_one]
      simp [h1]
    · rw [if_neg h1]
      by_cases h2 : a.k = 2
      · rw [if_pos h2]
        cases hh : hasA L a.x a.t a.r <;> simp [relA, hh, h2]
      · rw [if_neg h2]
        by_cases h4 : a.k = 4
        · rw [if_pos h4]
          cases hh : hasA L a.x a.t a.r <;> simp [passA, hh, h4]
        · rw [if_neg h4, if_neg h3]
          simp [h1, h2, h4]
  · rw [if_neg hs]
    have : ¬ StA L := fun k => hs ((chkA_iff L).2 k)
    simp [this]
theorem next_other {L : List H4} {a b : A6} (s : StA L) (ha : 1 ∈ codesA L a) (hc : a.c = 1) (h3 : a.k ≠ 3) (hx : a.x ≠ b.x) {p : H4} (hp : atK b p) : p ∈ L ↔ p ∈ nextA L a := by
  rw [mem_next s.sorted hc h3]
  constructor
  · intro h
    exact .inr ⟨h, fun k => hx (k.1.symm.trans hp.1)⟩
  · rintro (⟨_, rfl⟩ | h)
    · exact absurd hp.1 hx
    · exact h.1
theorem want_other {L : List H4} {a b : A6} (s : StA L) (ha : 1 ∈ codesA L a) (hc : a.c = 1) (h3 : a.k ≠ 3) (hx : a.x ≠ b.x) : wantA (nextA L a) b.x b.t b.r b.m = wantA L b.x b.t b.r b.m := by
  have sn : StA (nextA L a) := sta_next (by rw [hc]; exact ha)
  unfold wantA
  rw [modeA_congr sn.sorted s.sorted fun p e => (next_other s ha hc h3 hx e).symm]
theorem codes_other {L : List H4} {a b : A6} (s : StA L) (ha : 1 ∈ codesA L a) (hb : 1 ∈ codesA L b) (hca : a.c = 1) (h3 : a.k ≠ 3) (h3b : b.k ≠ 3) (hx : a.x ≠ b.x) (hn : ¬ (a.t = b.t ∧ a.r = b.r)) : 1 ∈ codesA (nextA L a) b := by
  have sn : StA (nextA L a) := sta_next (by rw [hca]; exact ha)
  rw [codes_one h3b] at hb ⊢
  refine ⟨sn, ?_⟩
  rcases hb.2 with ⟨k1, k2⟩ | ⟨k1, k2⟩
  · refine .inl ⟨k1, ?_⟩
    rw [mayA_iff] at k2 ⊢
    refine ⟨k2.1, ?_⟩
    rw [want_other s ha hca h3 hx]
    intro p hp
    rcases (mem_next s.sorted hca h3 p).1 hp with ⟨_, rfl⟩ | ⟨hp, _⟩
    · rw [badH_iff]; intro e; exact absurd e hn
    · exact k2.2 p hp
  · exact .inr ⟨k1, by rw [← hasA_congr fun p e => next_other s ha hca h3 hx e]; exact k2⟩
theorem next_comm {L : List H4} {a b : A6} (s : StA L) (ha : 1 ∈ codesA L a) (hb : 1 ∈ codesA L b) (hca : a.c = 1) (hcb : b.c = 1) (h3 : a.k ≠ 3) (h3b : b.k ≠ 3) (hx : a.x ≠ b.x) (hn : ¬ (a.t = b.t ∧ a.r = b.r)) :
    nextA (nextA L a) b = nextA (nextA L b) a := by
  have sa : StA (nextA L a) := sta_next (by rw [hca]; exact ha)
  have sb : StA (nextA L b) := sta_next (by rw [hcb]; exact hb)
  have ab := codes_other s ha hb hca h3 h3b hx hn
  have ba := codes_other s hb ha hcb h3b h3 (fun e => hx e.symm) (fun e => hn ⟨e.1.symm, e.2.symm⟩)
  have sab : StA (nextA (nextA L a) b) := sta_next (by rw [hcb]; exact ab)
  have sba : StA (nextA (nextA L b) a) := sta_next (by rw [hca]; exact ba)
  refine sorted_ext sab.sorted sba.sorted fun p => ?_
  rw [mem_next sa.sorted hcb h3b, mem_next sb.sorted hca h3, mem_next s.sorted hca h3, mem_next s.sorted hcb h3b, want_other s ha hca h3 hx, want_other (a := b) (b := a) s hb hcb h3b (fun e => hx e.symm)]
  have e1 : p = wantA L a.x a.t a.r a.m → ¬ atK b p := by rintro rfl k; exact hx k.1
  have e2 : p = wantA L b.x b.t b.r b.m → ¬ atK a p := by rintro rfl k; exact hx k.1.symm
  constructor
  · rintro (h | ⟨h | h, k⟩)
    · exact .inr ⟨.inl h, e2 h.2⟩
    · exact .inl h
    · exact .inr ⟨.inr ⟨h.1, k⟩, h.2⟩
  · rintro (h | ⟨h | h, k⟩)
    · exact .inr ⟨.inl h, e1 h.2⟩
    · exact .inl h
    · exact .inr ⟨.inr ⟨h.1, k⟩, h.2⟩
/-- taken, and released -/
theorem next_back {L : List H4} {a : A6} (ha : 1 ∈ codesA L a) (hk : a.k = 1) (hc : a.c = 1) (h0 : modeA L a.x a.t a.r = 0) :
    1 ∈ codesA (nextA L a) ⟨2, a.x, a.t, a.r, 0, 1⟩ ∧ nextA (nextA L a) ⟨2, a.x, a.t, a.r, 0, 1⟩ = L := by
  have s : StA L := step_chk (a := a) (by rw [hc]; exact ha)
  have h3 : a.k ≠ 3 := by omega
  have sn : StA (nextA L a) := sta_next (by rw [hc]; exact ha)
  have hw : wantA L a.x a.t a.r a.m ∈ nextA L a := (mem_next s.sorted hc h3 _).2 (.inl ⟨hk, rfl⟩)
  have hin : 1 ∈ codesA (nextA L a) ⟨2, a.x, a.t, a.r, 0, 1⟩ := by
    rw [codes_one (show (2 : Int) ≠ 3 by decide)]
    exact ⟨sn, .inr ⟨.inl rfl, (hasA_iff _ _ _ _).2 ⟨_, hw, rfl, rfl, rfl⟩⟩⟩
  refine ⟨hin, ?_⟩
  have s2 : StA (nextA (nextA L a) ⟨2, a.x, a.t, a.r, 0, 1⟩) := sta_next hin
  refine sorted_ext s2.sorted s.sorted fun p => ?_
  rw [mem_next (a := ⟨2, a.x, a.t, a.r, 0, 1⟩) sn.sorted rfl (show (2 : Int) ≠ 3 by decide), mem_next s.sorted hc h3]
  constructor
  · rintro (⟨k, _⟩ | ⟨⟨_, rfl⟩ | h, k⟩)
    · exact absurd k (show ¬ (2 : Int) = 1 by decide)
    · exact absurd ⟨rfl, rfl, rfl⟩ k
    · exact h.1
  · intro h
    have hn : ¬ (p.x = a.x ∧ p.t = a.t ∧ p.r = a.r) := by
      intro e
      have := modeA_mem s.sorted h e
      rw [h0] at this
      exact ((askA_iff _ _ _).1 (s.asked p h)).2.2 this.symm
    exact .inr ⟨.inr ⟨h, hn⟩, hn⟩
end Go.Proofs

namespace Go.Proofs
open Go.Vai Go.Clashes
theorem step2_w (L : List H4) (a : A6) (h : Heap) (v : Value) (κ : Value → Heap → Prop) (hv : Sl enc4 h v L) (hc : CutH h v L.length) (hlen : L.length ≤ 90000) (hlo : h.lo ≤ h.nx)
    (hk1 : ∀ h', ¬ a.c ∈ codesA L a → Le h h' → κ (.tuple ⟨[.slice none 0 0, .bool false]⟩) h')
    (hk2 : ∀ v' h', a.c ∈ codesA L a → Sl enc4 h' v' (nextA L a) → CutH h' v' (nextA L a).length → Le h h' → κ (.tuple ⟨[v', .bool true]⟩) h') : CallW Try.prog 60 [v, aggA a] h κ := by
  refine step_w L a h v κ hv hc hlen hlo ?_
  intro r h' hr hle
  rcases hr with ⟨e1, rfl⟩ | ⟨v', L', e1, rfl, e3, e4, e5⟩
  · refine hk1 h' (fun hin => ?_) hle
    unfold stepA at e1; rw [if_pos hin] at e1; cases e1
  · unfold stepA at e1
    split at e1
    · cases e1; exact hk2 v' h' (by assumption) e3 e4 hle
    · cases e1
theorem turn_tail (L : List H4) (a b : A6) (v v21 : Value) (is : Bool) (b1 b3 : Nat) (h : Heap) (st : StA L) (hca : a.c = 1) (hcb : b.c = 1)
    (hv : Sl enc4 h v L) (hc : CutH h v L.length) (hn : L.length ≤ 30) (hlo : h.lo ≤ h.nx) (hb1 : b1 < h.nx) (hb3 : b3 < h.nx) (hg1 : h.bl.get b1 = some (blkA a)) (hg3 : h.bl.get b3 = some (blkA b))
    (his : is = true → 1 ∈ codesA L a ∧ Sl enc4 h v21 (nextA L a) ∧ CutH h v21 (nextA L a).length) : rs_12_4 b1 b3 v (.bool is) v21 h IsTrue := by
  by_cases h1 : a.x = b.x
  · simp (disch := first | omega | (simp only [Wx]; done) | (simp only [Wy]; done) | (simp only [Wv]; omega) | with_unfolding_all rfl) only [Wz, ptrTo, sliceTo, rs_12_4, hg1, hg3, dec_t h1]
    rfl
  by_cases h2 : a.t = b.t ∧ a.r = b.r
  · simp (disch := first | omega | (simp only [Wx]; done) | (simp only [Wy]; done) | (simp only [Wv]; omega) | with_unfolding_all rfl) only [Wz, ptrTo, sliceTo, rs_12_4, hg1, hg3, dec_f h1, bin_eq27, dec_t h2]
    rfl
  by_cases h3 : a.k = 3
  · simp (disch := first | omega | (simp only [Wx]; done) | (simp only [Wy]; done) | (simp only [Wv]; omega) | with_unfolding_all rfl) only [Wz, ptrTo, sliceTo, rs_12_4, hg1, hg3, dec_f h1, bin_eq27, dec_f h2, dec_t h3]
    rfl
  by_cases h4 : b.k = 3
  · simp (disch := first | omega | (simp only [Wx]; done) | (simp only [Wy]; done) | (simp only [Wv]; omega) | with_unfolding_all rfl) only [Wz, ptrTo, sliceTo, rs_12_4, hg1, hg3, dec_f h1, bin_eq27, dec_f h2, dec_f h3, dec_t h4]
    rfl
  simp (disch := first | omega | (simp only [Wx]; done) | (simp only [Wy]; done) | (simp only [Wv]; omega) | with_unfolding_all rfl) only [Wz, ptrTo, sliceTo, rs_12_4, hg1, hg3, dec_f h1, bin_eq27, dec_f h2, dec_f h3, dec_f h4]
  refine rcheck_w a.t a.r ?_
  cases hok : okN a.t a.r with
  | false =>
    simp (disch := first | omega | (simp only [Wx]; done) | (simp only [Wy]; done) | (simp only [Wv]; omega) | with_unfolding_all rfl) only [Wz, ptrTo, sliceTo, Bool.false_eq_true, if_false]
    rfl
  | true =>
    simp (disch := first | omega | (simp only [Wx]; done) | (simp only [Wy]; done) | (simp only [Wv]; omega) | with_unfolding_all rfl) only [Wz, ptrTo, sliceTo, if_true, rs_12_2, hg3]
    refine step2_w L b h v _ hv hc (by omega) hlo ?_ ?_
    · intro h5 _ hle5
      cases is with
      | false => simp (disch := first | omega | (simp only [Wx]; done) | (simp only [Wy]; done) | (simp only [Wv]; omega) | with_unfolding_all rfl) only [Wz, ptrTo, sliceTo]; rfl
      | true => simp (disch := first | omega | (simp only [Wx]; done) | (simp only [Wy]; done) | (simp only [Wv]; omega) | with_unfolding_all rfl) only [Wz, ptrTo, sliceTo]; rfl
    · intro v106 h5 hinb hv106 hc106 hle5
      have n5 := hle5.nx
      have l5 := hle5.lo
      have g51 := (hle5.get b1 hb1).trans hg1
      have g53 := (hle5.get b3 hb3).trans hg3
      cases is with
      | false => simp (disch := first | omega | (simp only [Wx]; done) | (simp only [Wy]; done) | (simp only [Wv]; omega) | with_unfolding_all rfl) only [Wz, ptrTo, sliceTo]; rfl
      | true =>
        obtain ⟨hina, hv21, hc21⟩ := his rfl
        rw [hcb] at hinb
        have la := next_len (a := a) (L := L) (by rw [hca]; exact hina)
        have lb := next_len (a := b) (L := L) (by rw [hcb]; exact hinb)
        simp (disch := first | omega | (simp only [Wx]; done) | (simp only [Wy]; done) | (simp only [Wv]; omega) | with_unfolding_all rfl) only [Wz, ptrTo, sliceTo, rs_12_1, g53]
        refine step2_w (nextA L a) b h5 v21 _ (hv21.le hle5) (hc21.le hle5) (by omega) (by omega) ?_ ?_
        · intro h6 hno hle6
          exact absurd (by rw [hcb]; exact codes_other st hina hinb hca h3 h4 h1 h2) hno
        · intro v116 h6 hin6 hv116 hc116 hle6
          have n6 := hle6.nx
          have l6 := hle6.lo
          have g61 := (hle6.get b1 (by omega)).trans g51
          have l6a := next_len hin6
          simp (disch := first | omega | (simp only [Wx]; done) | (simp only [Wy]; done) | (simp only [Wv]; omega) | with_unfolding_all rfl) only [Wz, ptrTo, sliceTo, g61]
          refine step2_w (nextA L b) a h6 v106 _ (hv106.le hle6) (hc106.le hle6) (by omega) (by omega) ?_ ?_
          · intro h7 hno hle7
            exact absurd (by rw [hca]; exact codes_other st hinb hina hcb h4 h3 (fun e => h1 e.symm) (fun e => h2 ⟨e.1.symm, e.2.symm⟩)) hno
          · intro v120 h7 hin7 hv120 hc120 hle7
            have l7a := next_len hin7
            simp (disch := first | omega | (simp only [Wx]; done) | (simp only [Wy]; done) | (simp only [Wv]; omega) | with_unfolding_all rfl) only [Wz, ptrTo, sliceTo]
            refine sameA_w _ _ h7 v116 v120 _ (hv116.le hle7) hv120 (by omega) (by omega) ?_
            rw [dec_t (next_comm st hina hinb hca hcb h3 h4 h1 h2)]
            rfl
set_option maxHeartbeats 4000000 in
theorem automatonTurns_law (L : List H4) (a b : A6) (h : Heap) (v : Value) (hv : Sl enc4 h v L) (hc : CutH h v L.length) (hlo : h.lo ≤ h.nx) : CallW Try.prog 12 [v, aggA a, aggA b] h IsTrue := by
  refine callW_of mixed ?_
  rw [rs_12]
  simp (disch := first | omega | (simp only [Wx]; done) | (simp only [Wy]; done) | (simp only [Wv]; omega) | with_unfolding_all rfl) only [Wz, ptrTo, sliceTo, aggA, enc6]
  obtain ⟨hA, eA⟩ : ∃ hA : Heap, hA = ⟨h.nx + 1 + 1, (h.bl.upd h.nx (blkA a)).upd (h.nx + 1) (blkA b), h.lo⟩ := ⟨_, rfl⟩
  have hleA : Le h hA := by subst eA; exact ((Le.refl h).new _).new _
  have gA1 : hA.bl.get h.nx = some (blkA a) := by subst eA; exact (T.get_updne _ _ (by omega)).trans (T.get_upd_same _ _ _)
  have gA3 : hA.bl.get (h.nx + 1) = some (blkA b) := by subst eA; exact T.get_upd_same _ _ _
  have nA : hA.nx = h.nx + 1 + 1 := by subst eA; rfl
  have lA : hA.lo = h.lo := by subst eA; rfl
  rw [← eA]
  clear eA
  refine closedW mixed lives15 ?_
  by_cases hn : L.length > 30
  · simp (disch := first | omega | (simp only [Wx]; done) | (simp only [Wy]; done) | (simp only [Wv]; omega) | with_unfolding_all rfl) only [Wz, ptrTo, sliceTo, rs_12_6, hv.len]
    rfl
  simp (disch := first | omega | (simp only [Wx]; done) | (simp only [Wy]; done) | (simp only [Wv]; omega) | with_unfolding_all rfl) only [Wz, ptrTo, sliceTo, rs_12_6, hv.len]
  refine acheck_w L hA v _ (hv.le hleA) (hc.le hleA) (by omega) (by omega) ?_
  intro h2 hle2
  have n2 := hle2.nx
  have l2 := hle2.lo
  have g21 := (hle2.get h.nx (by omega)).trans gA1
  have g23 := (hle2.get (h.nx + 1) (by omega)).trans gA3
  have hall2 := hleA.trans hle2
  by_cases hch : chkA L = true
  case neg =>
    simp (disch := first | omega | (simp only [Wx]; done) | (simp only [Wy]; done) | (simp only [Wv]; omega) | with_unfolding_all rfl) only [Wz, ptrTo, sliceTo, if_neg hch]
    rfl
  have st := (chkA_iff L).1 hch
  simp (disch := first | omega | (simp only [Wx]; done) | (simp only [Wy]; done) | (simp only [Wv]; omega) | with_unfolding_all rfl) only [Wz, ptrTo, sliceTo, if_pos hch, rs_12_5, g21, g23]
  obtain ⟨a', ea⟩ : ∃ a' : A6, a' = ⟨a.k, a.x, a.t, a.r, a.m, 1⟩ := ⟨_, rfl⟩
  obtain ⟨b', eb⟩ : ∃ b' : A6, b' = ⟨b.k, b.x, b.t, b.r, b.m, 1⟩ := ⟨_, rfl⟩
  obtain ⟨hB, eB⟩ : ∃ hB : Heap, hB = ⟨h2.nx, (h2.bl.upd h.nx (blkA a')).upd (h.nx + 1) (blkA b'), h2.lo⟩ := ⟨_, rfl⟩
  have hleB : Le h hB := by subst eB; exact ((hall2.set (b := h.nx) (Nat.le_refl _) _).set (b := h.nx + 1) (Nat.le_succ _) _)
  have gB1 : hB.bl.get h.nx = some (blkA a') := by subst eB; exact (T.get_updne _ _ (by omega)).trans (T.get_upd_same _ _ _)
  have gB3 : hB.bl.get (h.nx + 1) = some (blkA b') := by subst eB; exact T.get_upd_same _ _ _
  have nB : hB.nx = h2.nx := by subst eB; rfl
  have lB : hB.lo = h2.lo := by subst eB; rfl
  have ca : a'.c = 1 := by subst ea; rfl
  have cb : b'.c = 1 := by subst eb; rfl
  have key : CallW Try.prog 60 [v, aggA a'] hB fun v20 h_1 =>
    extractB False 0 v20 h_1 fun v21 h_2 =>
      extractB False 1 v20 h_2 fun v22 h_3 =>
        JoinR (fun N23 => rs_12_3 v22 h.nx v v21 N23 h_3 IsTrue) fun l24 h_4 =>
          rs_12_4 h.nx (h.nx + 1) v v22 v21 h_4 IsTrue := by
    refine step2_w L a' hB v _ (hv.le hleB) (hc.le hleB) (by omega) (by omega) ?_ ?_
    · intro h3 hno hle3
      have n3 := hle3.nx
      have l3 := hle3.lo
      have g31 := (hle3.get h.nx (by omega)).trans gB1
      have g33 := (hle3.get (h.nx + 1) (by omega)).trans gB3
      have hall3 := hleB.trans hle3
      simp (disch := first | omega | (simp only [Wx]; done) | (simp only [Wy]; done) | (simp only [Wv]; omega) | with_unfolding_all rfl) only [Wz, ptrTo, sliceTo]
      refine ⟨fun l h' => Le h3 h', ?_, ?_⟩
      · simp (disch := first | omega | (simp only [Wx]; done) | (simp only [Wy]; done) | (simp only [Wv]; omega) | with_unfolding_all rfl) only [Wz, ptrTo, sliceTo, rs_12_3]
        exact Le.refl _
      · rintro l h' hl
        have n' := hl.nx
        have l' := hl.lo
        exact turn_tail L a' b' v _ false h.nx (h.nx + 1) h' st ca cb (hv.le (hall3.trans hl)) (hc.le (hall3.trans hl)) (by omega) (by omega) (by omega) (by omega) ((hl.get _ (by omega)).trans g31) ((hl.get _ (by omega)).trans g33) (fun e => by cases e)
    · intro v21 h3 hin hv21 hc21 hle3
      have n3 := hle3.nx
      have l3 := hle3.lo
      have g31 := (hle3.get h.nx (by omega)).trans gB1
      have g33 := (hle3.get (h.nx + 1) (by omega)).trans gB3
      have hall3 := hleB.trans hle3
      have hin1 : 1 ∈ codesA L a' := by rw [← ca]; exact hin
      have la := next_len hin
      simp (disch := first | omega | (simp only [Wx]; done) | (simp only [Wy]; done) | (simp only [Wv]; omega) | with_unfolding_all rfl) only [Wz, ptrTo, sliceTo]
      refine ⟨fun l h' => Le h3 h', ?_, ?_⟩
      · by_cases hk : a'.k = 1
        case neg =>
          simp (disch := first | omega | (simp only [Wx]; done) | (simp only [Wy]; done) | (simp only [Wv]; omega) | with_unfolding_all rfl) only [Wz, ptrTo, sliceTo, rs_12_3, g31, dec_f hk]
          exact Le.refl _
        simp (disch := first | omega | (simp only [Wx]; done) | (simp only [Wy]; done) | (simp only [Wv]; omega) | with_unfolding_all rfl) only [Wz, ptrTo, sliceTo, rs_12_3, g31, dec_t hk]
        refine amode_w L a'.x a'.t a'.r h3 v _ (hv.le hall3) (by omega) (by omega) ?_
        intro h4 hle4
        have n4 := hle4.nx
        have l4 := hle4.lo
        have g41 := (hle4.get h.nx (by omega)).trans g31
        by_cases hm : modeA L a'.x a'.t a'.r = 0
        case neg =>
          simp (disch := first | omega | (simp only [Wx]; done) | (simp only [Wy]; done) | (simp only [Wv]; omega) | with_unfolding_all rfl) only [Wz, ptrTo, sliceTo, dec_f hm]
          exact hle4
        simp (disch := first | omega | (simp only [Wx]; done) | (simp only [Wy]; done) | (simp only [Wv]; omega) | with_unfolding_all rfl) only [Wz, ptrTo, sliceTo, dec_t hm, rs_12_0, g41]
        obtain ⟨e1, e2⟩ := next_back hin1 hk ca hm
        show CallW Try.prog 60 [v21, aggA ⟨2, a'.x, a'.t, a'.r, 0, 1⟩] h4 _
        refine step2_w (nextA L a') ⟨2, a'.x, a'.t, a'.r, 0, 1⟩ h4 v21 _ (hv21.le hle4) (hc21.le hle4) (by omega) (by omega) ?_ ?_
        · intro h5 hno hle5
          exact absurd e1 hno
        · intro v53 h5 hin5 hv53 hc53 hle5
          rw [e2] at hv53
          simp (disch := first | omega | (simp only [Wx]; done) | (simp only [Wy]; done) | (simp only [Wv]; omega) | with_unfolding_all rfl) only [Wz, ptrTo, sliceTo]
          refine sameA_w L L h5 v53 v _ hv53 (hv.le ((hall3.trans hle4).trans hle5)) (by omega) (by omega) ?_
          rw [dec_t rfl]
          simp (disch := first | omega | (simp only [Wx]; done) | (simp only [Wy]; done) | (simp only [Wv]; omega) | with_unfolding_all rfl) only [Wz, ptrTo, sliceTo]
          exact hle4.trans hle5
      · rintro l h' hl
        have n' := hl.nx
        have l' := hl.lo
        exact turn_tail L a' b' v _ true h.nx (h.nx + 1) h' st ca cb (hv.le (hall3.trans hl)) (hc.le (hall3.trans hl)) (by omega) (by omega) (by omega) (by omega) ((hl.get _ (by omega)).trans g31) ((hl.get _ (by omega)).trans g33) (fun _ => ⟨hin1, hv21.le hl, hc21.le hl⟩)
  subst ea
  subst eb
  subst eB
  exact key
end Go.Proofs
