/-
  PROVED HERE: a part of the proof, by a calculus of weakest conditions over an abstract heap (K37, K38, K39, K40, K41).
-/
import Derived.Test.YtijmemedhkgplaaGreatKE
import Derived.Test.YtijmemedhkgplaaGreatV3
set_option linter.unusedVariables false
set_option linter.unusedSimpArgs false
set_option maxRecDepth 100000
namespace Go.Proofs
open Go.Vai Go.Clashes
theorem eqRk (h : Heap) (a b c d e a' b' c' d' e' : Int) : eqB Tryz.prog h 100 47 (.agg ⟨[.int .i64 a, .int .i64 b, .int .i64 c, .int .i64 d, .int .i64 e]⟩) (.agg ⟨[.int .i64 a', .int .i64 b', .int .i64 c', .int .i64 d', .int .i64 e']⟩) =
    (match (some (ieqB a a')) with | some true => (match some (ieqB b b') with | some true => (match some (ieqB c c') with | some true => (match some (ieqB d d') with | some true => (match some (ieqB e e') with | some true => some true | r => r) | r => r) | r => r) | r => r) | r => r) := by kernel_rfl
theorem eqR (h : Heap) (a b c d e : Int) : eqB Tryz.prog h 100 47 (.agg ⟨[.int .i64 a, .int .i64 b, .int .i64 c, .int .i64 d, .int .i64 e]⟩) (.agg ⟨[.int .i64 a, .int .i64 b, .int .i64 c, .int .i64 d, .int .i64 e]⟩) = some true := by
  rw [eqRk]; simp only [ieqB_eq, decide_true]
theorem bin_neR {β : Type} {fl : β} (cn : Bool) (a b c d e : Int) (h : Heap) (κ : Value → Heap → β) : binB fl Tryz.prog .neq 47 cn false (.agg ⟨[.int .i64 a, .int .i64 b, .int .i64 c, .int .i64 d, .int .i64 e]⟩) (.agg ⟨[.int .i64 a, .int .i64 b, .int .i64 c, .int .i64 d, .int .i64 e]⟩) h κ = κ (.bool false) h := by
  simp only [binB, eqR, fbK_eq, Bool.not_true]
theorem bin_neN {β : Type} {fl : β} (cn : Bool) (a b c d : Int) (h : Heap) (κ : Value → Heap → β) : binB fl Tryz.prog .neq 38 cn false (.agg ⟨[.int .i64 a, .int .i64 b]⟩) (.agg ⟨[.int .i64 c, .int .i64 d]⟩) h κ = κ (.bool (!decide (a = c ∧ b = d))) h := by
  have := eqN h a b c d
  unfold nmV at this
  simp only [binB, this, fbK_eq]
theorem bin_neNs {β : Type} {fl : β} (cn : Bool) (a b : Int) (h : Heap) (κ : Value → Heap → β) : binB fl Tryz.prog .neq 38 cn false (.agg ⟨[.int .i64 a, .int .i64 b]⟩) (.agg ⟨[.int .i64 a, .int .i64 b]⟩) h κ = κ (.bool false) h := by
  rw [bin_neN]; simp
theorem bin_eqN {β : Type} {fl : β} (cn : Bool) (a b c d : Int) (h : Heap) (κ : Value → Heap → β) : binB fl Tryz.prog .eql 38 cn false (.agg ⟨[.int .i64 a, .int .i64 b]⟩) (.agg ⟨[.int .i64 c, .int .i64 d]⟩) h κ = κ (.bool (decide (a = c ∧ b = d))) h := by
  have := eqN h a b c d
  unfold nmV at this
  simp only [binB, this, fbK_eq]
theorem sameR_w (Q : List R5) (v1 v2 : Value) (h : Heap) (κ : Value → Heap → Prop) (h1 : Sl enc5 h v1 Q) (h2 : Sl enc5 h v2 Q) (hl : Q.length ≤ 1000) (hk : κ (.bool true) h) : CallW Tryz.prog 43 [v1, v2] h κ := by
  obtain ⟨x1, c1, e1, _⟩ := (show Sl enc5 h v1 Q from h1)
  obtain ⟨x2, c2, e2, _⟩ := (show Sl enc5 h v2 Q from h2)
  refine callW_of mixed ?_
  rw [rs_43]
  rw [e1, e2]
  simp (disch := first | omega | (simp only [Wx]; done) | (simp only [Wy]; done) | (simp only [Wv]; omega) | with_unfolding_all rfl) only [Wz, ptrTo, sliceTo]
  refine ⟨fun m l h' => ∃ i : Nat, slot l 16 = .int .i64 (i : Int) ∧ m = Q.length - i ∧ i ≤ Q.length ∧ HQ h h', ⟨_, 0, rfl, rfl, by omega, rfl⟩, ?_⟩
  rintro m l h' ⟨i, s1, rfl, hi, hq⟩
  cases (show h = h' from hq)
  by_cases hlt : i < Q.length
  · obtain ⟨p, hp⟩ : ∃ p, Q[i]? = some p := ⟨_, List.getElem?_eq_getElem hlt⟩
    obtain ⟨b1, o1, _, hx1, hr1, _⟩ := ld5 h1 i hp
    obtain ⟨b2, o2, _, hx2, hr2, _⟩ := ld5 h2 i hp
    rw [e1] at hx1
    rw [e2] at hx2
    simp (disch := first | omega | (simp only [Wx]; done) | (simp only [Wy]; done) | (simp only [Wv]; omega) | with_unfolding_all rfl) only [Wz, ptrTo, sliceTo, s1, lt_t (show (i : Int) < (Q.length : Int) by omega), rs_43_0, hx1, hr1, hx2, hr2, enc5, bin_neR]
    exact ⟨_, by omega, i + 1, rfl, rfl, by omega, rfl⟩
  · simp (disch := first | omega | (simp only [Wx]; done) | (simp only [Wy]; done) | (simp only [Wv]; omega) | with_unfolding_all rfl) only [Wz, ptrTo, sliceTo, s1, lt_f (show (Q.length : Int) ≤ (i : Int) by omega)]
    exact hk
theorem ldH {h : Heap} {v : Value} {K : List HE} (hs : Sl encH h v K) (i : Nat) {e : HE} (hp : K[i]? = some e) :
    ∃ b o, b < h.nx ∧ (∀ (β : Type) (fl : β) (h' : Heap) (κ : Value → Heap → β), indexAddrS fl 4 v (.int .i64 (i : Int)) h' κ = κ (.pointer (some ⟨b, o, none⟩)) h') ∧
      ((∀ (β : Type) (fl : β) (κ : List Value → β), ldA fl (h.bl.get b) o 2 κ = κ [.int .i64 e.t, .int .i64 e.r]) ∧
      (∀ (β : Type) (fl : β) (κ : List Value → β), ldA fl (h.bl.get b) o 4 κ = κ (encH e)) ∧
      (∀ (β : Type) (fl : β) (κ : Value → β), ldO fl (h.bl.get b) (o + 2) κ = κ (slV e.q)) ∧
      (∀ (β : Type) (fl : β) (κ : Value → β), ldO fl (h.bl.get b) (o + 3) κ = κ (.int .i64 e.w))) := by
  obtain ⟨b, o, h1, h2, h3, hh⟩ := hs.ld encH_len i hp
  refine ⟨b, o, h1, h2, ?_, ?_, ?_, ?_⟩
  · intro β fl κ
    have := hh.sub 0 2 (by show 0 + 2 ≤ 4; omega)
    rw [Nat.add_zero] at this
    exact ldA_has this 2 κ rfl
  · intro β fl κ; exact ldA_has hh 4 κ rfl
  · intro β fl κ; exact ldO_has (fl := fl) hh 2 κ (by show 2 < 4; omega)
  · intro β fl κ; exact ldO_has (fl := fl) hh 3 κ (by show 3 < 4; omega)
theorem sameH_w (K1 K2 : List HE) (v1 v2 : Value) (h : Heap) (κ : Value → Heap → Prop) (h1 : Sl encH h v1 K1) (h2 : Sl encH h v2 K2) (hl : K1.length ≤ 1000) (hll : K2.length = K1.length)
    (hs : ∀ (i : Nat) (a b : HE), K1[i]? = some a → K2[i]? = some b → SameH a b ∧ Sl enc5 h a.q a.Q ∧ Sl enc5 h b.q b.Q ∧ a.Q.length ≤ 1000) (hk : κ (.bool true) h) : CallW Tryz.prog 12 [v1, v2] h κ := by
  obtain ⟨x1, c1, e1, _⟩ := (show Sl encH h v1 K1 from h1)
  obtain ⟨x2, c2, e2, _⟩ := (show Sl encH h v2 K2 from h2)
  refine callW_of mixed ?_
  rw [rs_12]
  rw [e1, e2]
  simp (disch := first | omega | (simp only [Wx]; done) | (simp only [Wy]; done) | (simp only [Wv]; omega) | with_unfolding_all rfl) only [Wz, ptrTo, sliceTo, hll]
  refine ⟨fun m l h' => ∃ i : Nat, slot l 45 = .int .i64 (i : Int) ∧ m = K1.length - i ∧ i ≤ K1.length ∧ HQ h h', ⟨_, 0, rfl, rfl, by omega, rfl⟩, ?_⟩
  rintro m l h' ⟨i, s1, rfl, hi, hq⟩
  cases (show h = h' from hq)
  by_cases hlt : i < K1.length
  · obtain ⟨p, hp⟩ : ∃ p, K1[i]? = some p := ⟨_, List.getElem?_eq_getElem hlt⟩
    obtain ⟨q, hq⟩ : ∃ p, K2[i]? = some p := ⟨_, List.getElem?_eq_getElem (by omega)⟩
    obtain ⟨⟨ht, hr, hw, hQ⟩, hs1, hs2, hl1⟩ := hs i p q hp hq
    obtain ⟨b1, o1, _, hx1, hn1, _, hq1, hw1⟩ := ldH h1 i hp
    obtain ⟨b2, o2, _, hx2, hn2, _, hq2, hw2⟩ := ldH h2 i hq
    rw [e1] at hx1
    rw [e2, hll] at hx2
    rw [slV_sl hs1] at hq1
    rw [slV_sl hs2] at hq2
    rw [← ht, ← hr] at hn2
    rw [← hw] at hw2
    simp (disch := first | omega | (simp only [Wx]; done) | (simp only [Wy]; done) | (simp only [Wv]; omega) | with_unfolding_all rfl) only [Wz, ptrTo, sliceTo, s1, lt_t (show (i : Int) < (K1.length : Int) by omega), rs_12_0, hx1, hn1, hx2, hn2, bin_neNs, hw1, hw2, hq1, hq2]
    refine sameR_w p.Q p.q q.q h _ hs1 (by rw [hQ]; exact hs2) hl1 ?_
    simp (disch := first | omega | (simp only [Wx]; done) | (simp only [Wy]; done) | (simp only [Wv]; omega) | with_unfolding_all rfl) only [Wz, ptrTo, sliceTo, s1]
    exact ⟨_, by omega, i + 1, rfl, rfl, by omega, rfl⟩
  · simp (disch := first | omega | (simp only [Wx]; done) | (simp only [Wy]; done) | (simp only [Wv]; omega) | with_unfolding_all rfl) only [Wz, ptrTo, sliceTo, s1, lt_f (show (K1.length : Int) ≤ (i : Int) by omega)]
    exact hk
end Go.Proofs

namespace Go.Proofs
open Go.Vai Go.Clashes
theorem memNo (W : World) : ∀ c vs t, (memH W).bl.get c ≠ some (cellsO vs t true) := by
  intro c vs t h
  obtain ⟨C, e, fz, _, h2⟩ := memH_some h
  unfold cellsO at h2
  cases h2
theorem FrQ.le {h h' : Heap} {bm bp bl : Nat} (f : FrQ bm bp bl h h') (hno : ∀ c vs t, h.bl.get c ≠ some (cellsO vs t true)) (hm : h.nx ≤ bm) (hp : h.nx ≤ bp) (hl : h.nx ≤ bl) : Le h h' :=
  ⟨f.nx, f.lo, fun c hc => f.get c hc (by omega) (by omega) (by omega) fun vs => hno c vs _⟩
theorem best_snoc (Q : List R5) (a : R5) : ∀ i, i ≤ Q.length → best (Q ++ [a]) i = best Q i := by
  intro i
  induction i with
  | zero => intro _; rfl
  | succ i ih =>
    intro hi
    have e1 : (Q ++ [a])[i]? = Q[i]? := List.getElem?_append_left (by omega)
    unfold best
    rw [e1, ih (by omega)]
    split
    · rename_i r hr
      have e2 : lessQ (Q ++ [a]) r (best Q i) = lessQ Q r (best Q i) := by
        unfold lessQ
        split
        · rfl
        · rename_i b hb
          have := (best_lt Q i b hb).1
          rw [List.getElem?_append_left (by omega)]
      rw [e2]
    · rfl
theorem fits_snoc {Q : List R5} {a r : R5} (h : fitsQ Q r = false) : fitsQ (Q ++ [a]) r = false := by
  unfold fitsQ at *
  rw [List.any_append]
  simp only [Bool.not_eq_false'] at h ⊢
  rw [h]; rfl
theorem ask_stuck {Q : List R5} {W : Int} (v : VQ Q W) (hs : stuckQ Q) {id x m : Int} (hm : askedM m = true) : stuckQ (Q ++ [(askR Q W id x m).1]) := by
  obtain ⟨m0, _⟩ := (askedM_iff m).1 hm
  have hup : upR (askR Q W id x m).1 = false := by
    unfold askR upR
    split <;> simp
  have hb : best (Q ++ [(askR Q W id x m).1]) (Q ++ [(askR Q W id x m).1]).length = best Q Q.length := by
    rw [List.length_append, List.length_singleton, ← best_snoc Q (askR Q W id x m).1 _ (Nat.le_refl _)]
    generalize hA : best (Q ++ [(askR Q W id x m).1]) Q.length = B
    unfold best
    rw [List.getElem?_append_right (Nat.le_refl _), Nat.sub_self, List.getElem?_cons_zero]
    simp only [hup, Bool.false_and, hA]
    rfl
  intro i r hf hr
  unfold firstQ at hf
  rw [hb] at hf
  cases hbest : best Q Q.length with
  | some b =>
    rw [hbest] at hf
    have hbi : b = i := Option.some.inj hf
    subst hbi
    have hlt := (best_lt Q _ b hbest).1
    rw [List.getElem?_append_left hlt] at hr
    exact fits_snoc (hs b r (by unfold firstQ; rw [hbest]) hr)
  | none =>
    rw [hbest] at hf
    simp only at hf
    rw [List.findIdx?_append] at hf
    cases hfi : Q.findIdx? (fun r => decide (r.m = 0)) with
    | some j =>
      rw [hfi] at hf
      simp at hf
      subst hf
      have hlt : j < Q.length := by
        have := List.findIdx?_eq_some_iff_getElem.1 hfi
        exact this.1
      rw [List.getElem?_append_left hlt] at hr
      exact fits_snoc (hs j r (by unfold firstQ; rw [hbest]; exact hfi) hr)
    | none =>
      rw [hfi] at hf
      have hfirst : firstQ Q = none := by unfold firstQ; rw [hbest]; exact hfi
      by_cases hg : (decide (firstQ Q = none) && fitsQ Q ⟨id, x, 0, m, 0⟩) = true
      · have ha : (askR Q W id x m).1 = ⟨id, x, m, m, 0⟩ := by unfold askR; rw [if_pos hg]
        rw [ha] at hf
        simp [m0] at hf
      · have ha : (askR Q W id x m).1 = ⟨id, x, 0, m, W + 1⟩ := by unfold askR; rw [if_neg hg]
        rw [ha] at hf hr ⊢
        simp at hf
        subst hf
        rw [List.getElem?_append_right (Nat.le_refl _), Nat.sub_self, List.getElem?_cons_zero] at hr
        cases hr
        refine fits_snoc ?_
        rw [hfirst] at hg
        have : fitsQ Q ⟨id, x, 0, m, 0⟩ = false := by simpa using hg
        exact this
end Go.Proofs

namespace Go.Proofs
open Go.Vai Go.Clashes
theorem IdsOk.uniq {M : List HE} {B : List Bool} (i : IdsOk M B) {e e' : HE} (he : e ∈ M) (he' : e' ∈ M) {p p' : R5} (hp : p ∈ e.Q) (hp' : p' ∈ e'.Q) (h : p.id = p'.id) : e = e' := by
  have hnd : (idsM M).Nodup := (i.nodup_iff).2 (lent_nodup B)
  unfold idsM at hnd
  rw [List.Nodup, List.pairwise_flatMap] at hnd
  have : ∀ (L : List HE), (L.Pairwise fun a₁ a₂ => ∀ x ∈ a₁.Q.map (·.id), ∀ y ∈ a₂.Q.map (·.id), x ≠ y) → e ∈ L → e' ∈ L → e = e' := by
    intro L
    induction L with
    | nil => intro _ h; nomatch h
    | cons a L ih =>
      intro hp1 h1 h2
      rw [List.pairwise_cons] at hp1
      rcases List.mem_cons.1 h1 with rfl | k1 <;> rcases List.mem_cons.1 h2 with rfl | k2
      · rfl
      · exact absurd h (hp1.1 _ k2 _ (List.mem_map.2 ⟨p, hp, rfl⟩) _ (List.mem_map.2 ⟨p', hp', rfl⟩))
      · exact absurd h.symm (hp1.1 _ k1 _ (List.mem_map.2 ⟨p', hp', rfl⟩) _ (List.mem_map.2 ⟨p, hp, rfl⟩))
      · exact ih hp1.2 k1 k2
  exact this M hnd.2 he he'
theorem bin_eqNs {β : Type} {fl : β} (cn : Bool) (a b : Int) (h : Heap) (κ : Value → Heap → β) : binB fl Tryz.prog .eql 38 cn false (.agg ⟨[.int .i64 a, .int .i64 b]⟩) (.agg ⟨[.int .i64 a, .int .i64 b]⟩) h κ = κ (.bool true) h := by
  rw [bin_eqN]; simp
theorem eq39 {β : Type} {fl : β} (cn : Bool) (a b : Bool) (h : Heap) (κ : Value → Heap → β) : binB fl Tryz.prog .eql 4 cn false (.bool a) (.bool b) h κ = κ (.bool (decide (a = b))) h := by
  have und : Tryz.prog.underlying 4 = some .bool := by kernel_rfl
  have e1 : eqB Tryz.prog h 100 4 (.bool a) (.bool b) = some (decide (a = b)) := by
    unfold eqB
    simp only [und]
    cases a <;> cases b <;> exact id rfl
  simp only [binB, e1, fbK_eq]
/-- what is in the bucket behind an ask that is answered -/
theorem asked_at {h h' : Heap} {bb bm bp bl most cap N : Nat} {M M' : List HE} {clock clock' : Nat} {F F' : List Int} {B : List Bool} (s : BSt h bb bm bp bl most cap N M clock F B) {t r x m : Int} {n : Nat} {g : Bool} (am : askedM m = true) (a : Asked h h' bb bm bp bl most M M' clock' F F' B t r x m n g) :
    ∃ e ∈ M', ∃ p, e.t = t ∧ e.r = r ∧ findQ e.Q (n : Int) = some p ∧ p.x = x ∧ p.w = m ∧ decide (p.m = m) = g ∧ kn p.m = true ∧ p.id = (n : Int) := by
  obtain ⟨Q, w, hold, vq, vq', hg, hset⟩ := a.set
  have hst : stuckQ Q := by
    rcases hold with ⟨e, he, _, _, rfl, _⟩ | ⟨_, _, rfl, _⟩
    · exact (s.is.good e he).stuck
    · intro i r hf hr; simp at hr
  rw [scan_end (ask_stuck vq hst am)] at hset
  obtain ⟨e, h1, h2, h3, h4, hp⟩ := hset.put (by simp)
  have he : e ∈ M' := hp.mem_iff.2 (List.mem_append.2 (.inr (.head _)))
  have hmem : (askR Q w n x m).1 ∈ e.Q := by rw [h4]; simp
  obtain ⟨m0, km⟩ := (askedM_iff m).1 am
  have hf := findQ_mem (a.is.good e he).vq.pair hmem
  rw [askR_id] at hf
  refine ⟨e, he, _, h1, h2, hf, ?_, ?_, ?_, ?_, askR_id _ _ _ _ _⟩
  · unfold askR; split <;> rfl
  · unfold askR; split <;> rfl
  · rw [hg]; unfold askR; split
    · simp
    · simp; exact fun e => m0 e.symm
  · unfold askR; split
    · exact km
    · rfl
theorem fullOk_w {h h' : Heap} {bb bm bp bl most cap N : Nat} {M M' : List HE} {clock clock' : Nat} {F F' : List Int} {B : List Bool} (s : BSt h bb bm bp bl most cap N M clock F B) (a : Act) (b1 : Nat) {n : Nat} {g : Bool} (am : askedM a.m = true) (ak : Asked h h' bb bm bp bl most M M' clock' F F' B a.t a.r a.x a.m n g) (hlo : h'.lo ≤ h'.nx)
    (hb1 : b1 < h'.nx) (ga : h'.bl.get b1 = some (cellsO (encA a) 41 false)) (κ : Value → Heap → Prop) (hk : ∀ h', κ (.bool true) h') :
    rs_5_3 (.pointer (some ⟨bb, 0, none⟩)) (.int .i64 (n : Int)) b1 (.bool g) (.pointer (some ⟨bp, 0, none⟩)) (.int .i64 ((B.length : Int) - F.length)) h' κ := by
  have s' := BSt.asked s ak
  obtain ⟨e, he, p, et, er, hf, hpx, hpw, hpg, hkn, hid⟩ := asked_at s am ak
  simp (disch := first | omega | (simp only [Wx]; done) | (simp only [Wy]; done) | (simp only [Wv]; omega) | with_unfolding_all rfl) only [Wz, ptrTo, sliceTo, rs_5_3]
  refine getBk_w s'.is hlo (n : Int) _ ?_ ?_
  · intro h1 hno _
    rw [hno e he] at hf; cases hf
  · intro h1 e2 p2 he2 hf2 le1
    have n1 := le1.nx
    have l1 := le1.lo
    have := s'.ids.uniq he2 he (findQ_some hf2).1 (findQ_some hf).1 (by rw [(findQ_some hf2).2, (findQ_some hf).2])
    subst this
    rw [hf] at hf2
    cases hf2
    have ga1 := (le1.get _ hb1).trans ga
    unfold encA at ga1
    rw [et, er]
    simp (disch := first | omega | (simp only [Wx]; done) | (simp only [Wy]; done) | (simp only [Wv]; omega) | with_unfolding_all rfl) only [Wz, ptrTo, sliceTo, nmV, enc5, ga1, bin_eqNs, hpx, hpw, dec_t (show a.x = a.x from rfl), dec_t (show a.m = a.m from rfl), hpg, eq39, dec_t (show g = g from rfl)]
    obtain ⟨h3, e3⟩ : ∃ h3 : Heap, h3 = ⟨h1.nx + 1 + 1, (((h1.bl.upd h1.nx (cellsO [.int .i64 0, .int .i64 0] 38 false)).upd (h1.nx + 1) (blkR ⟨0, 0, 0, 0, 0⟩)).upd h1.nx (cellsO [.int .i64 a.t, .int .i64 a.r] 38 false)).upd (h1.nx + 1) (cellsO [.int .i64 p.id, .int .i64 a.x, .int .i64 p.m, .int .i64 a.m, .int .i64 p.s] 47 false), h1.lo⟩ := ⟨_, rfl⟩
    have le3 : Le h1 h3 := by rw [e3]; exact ((((Le.refl h1).new _).new _).set (b := h1.nx) (Nat.le_refl _) _).set (b := h1.nx + 1) (by omega) _
    have g3 : h3.bl.get (h1.nx + 1) = some (cellsO [.int .i64 p.id, .int .i64 a.x, .int .i64 p.m, .int .i64 a.m, .int .i64 p.s] 47 false) := by rw [e3]; exact T.get_upd_same _ _ _
    rw [← e3]
    clear e3
    have s3 := (s'.is.le le1).le le3
    have hsm := s.is.pool.small
    have hll := lent_len s.is.pool.ok
    have hll' := lent_len s3.pool.ok
    have hF := ak.free.length_eq
    simp only [List.length_cons] at hF
    refine live_w bp bl F' (B.set n true) h3 _ s3.pool (by omega) ?_
    rw [List.length_set]
    have ev : (B.length : Int) - F'.length = (B.length : Int) - F.length + 1 := by omega
    rw [ev]
    simp (disch := first | omega | (simp only [Wx]; done) | (simp only [Wy]; done) | (simp only [Wv]; omega) | with_unfolding_all rfl) only [Wz, ptrTo, sliceTo, dec_t (show (B.length : Int) - F.length + 1 = (B.length : Int) - F.length + 1 from rfl), g3]
    refine rknown_w p.m ?_
    rw [hkn]
    exact hk h3
end Go.Proofs

namespace Go.Proofs
open Go.Vai Go.Clashes
theorem sorted_eq : ∀ {L1 L2 : List (Int × Int)}, L1.Perm L2 → L1.Pairwise ltN → L2.Pairwise ltN → L1 = L2 := by
  intro L1
  induction L1 with
  | nil => intro L2 h _ _; exact (List.nil_perm.1 h).symm
  | cons a L1 ih =>
    intro L2 h h1 h2
    cases L2 with
    | nil => exact absurd h.length_eq (by simp)
    | cons b L2 =>
      rw [List.pairwise_cons] at h1 h2
      by_cases hab : a = b
      · subst hab
        rw [ih (List.Perm.cons_inv h) h1.2 h2.2]
      · exfalso
        have ha : a ∈ L2 := by
          rcases List.mem_cons.1 (h.mem_iff.1 (.head _)) with e | e
          · exact absurd e hab
          · exact e
        have hb : b ∈ L1 := by
          rcases List.mem_cons.1 (h.mem_iff.2 (.head _)) with e | e
          · exact absurd e.symm hab
          · exact e
        have := ltN_trans (h2.1 a ha) (h1.1 b hb)
        unfold ltN at this
        omega
/-- a list of all heads that was told, still there -/
structure Told (h : Heap) (M : List HE) (v : Value) (K : List HE) : Prop where
  len : K.length = M.length
  perm : (K.map nmOf).Perm (M.map nmOf)
  srt : (K.map nmOf).Pairwise ltN
  each : ∀ k ∈ K, (∃ e ∈ M, SameH k e) ∧ QV h k.q k.Q
  sl : Sl encH h v K
theorem Told.le {h h' : Heap} {M : List HE} {v : Value} {K : List HE} (t : Told h M v K) (l : Le h h') : Told h' M v K :=
  ⟨t.len, t.perm, t.srt, fun k hk => ⟨(t.each k hk).1, (t.each k hk).2.le l⟩, t.sl.le l⟩
theorem Told.same {h : Heap} {M : List HE} {clock : Nat} (o : MapOk M clock) {v v' : Value} {K K' : List HE} (t : Told h M v K) (t' : Told h M v' K') (i : Nat) (a b : HE) (ha : K[i]? = some a) (hb : K'[i]? = some b) : SameH a b := by
  have e := sorted_eq (t.perm.trans t'.perm.symm) t.srt t'.srt
  have e1 : (K.map nmOf)[i]? = (K'.map nmOf)[i]? := by rw [e]
  rw [List.getElem?_map, List.getElem?_map, ha, hb] at e1
  have e2 : nmOf a = nmOf b := Option.some.inj e1
  obtain ⟨x, hx, sx⟩ := (t.each a (List.mem_of_getElem? ha)).1
  obtain ⟨y, hy, sy⟩ := (t'.each b (List.mem_of_getElem? hb)).1
  have ht : a.t = b.t := congrArg Prod.fst e2
  have hr : a.r = b.r := congrArg Prod.snd e2
  have := o.uniq hx hy (by rw [← sx.1, ← sy.1]; exact ht) (by rw [← sx.2.1, ← sy.2.1]; exact hr)
  subst this
  exact ⟨ht, hr, sx.2.2.1.trans sy.2.2.1.symm, sx.2.2.2.trans sy.2.2.2.symm⟩
theorem told_w {h : Heap} {bb bm bp bl most cap N : Nat} {M : List HE} {clock : Nat} {F : List Int} {B : List Bool} (s : BSt h bb bm bp bl most cap N M clock F B) (hlo : h.lo ≤ h.nx) (hm : most ≤ 12) (κ : Value → Heap → Prop)
    (hk : ∀ v h' K, Told h' M v K → Le h h' → κ v h') : CallW Tryz.prog 13 [.pointer (some ⟨bb, 0, none⟩)] h κ := by
  have hl := s.len
  refine headsBk_w s.is hlo (by omega) _ ?_
  intro v h' K h1 h2 h3 h4 h5 le
  exact hk v h' K ⟨h1, h2, h3, h4, h5.sl⟩ le
/-- a list that was told, and one that is told now -/
theorem sameNow_w {h : Heap} {bb bm bp bl most cap N : Nat} {M : List HE} {clock : Nat} {F : List Int} {B : List Bool} (s : BSt h bb bm bp bl most cap N M clock F B) (hm : most ≤ 12) {v v' : Value} {K K' : List HE} (t : Told h M v K) (t' : Told h M v' K') (κ : Value → Heap → Prop) (hk : κ (.bool true) h) :
    CallW Tryz.prog 12 [v, v'] h κ := by
  have hl := s.len
  have l1 := t.len
  have l2 := t'.len
  refine sameH_w K K' v v' h _ t.sl t'.sl (by omega) (by omega) (fun i a b ha hb => ?_) hk
  obtain ⟨⟨x, hx, sx⟩, qa⟩ := t.each a (List.mem_of_getElem? ha)
  have qb := (t'.each b (List.mem_of_getElem? hb)).2
  have := (s.is.good x hx).small
  exact ⟨t.same s.is.ok t' i a b ha hb, qa.1, qb.1, by rw [sx.2.2.2]; omega⟩
theorem BSt.le {h h' : Heap} {bb bm bp bl most cap N : Nat} {M : List HE} {clock : Nat} {F : List Int} {B : List Bool} (s : BSt h bb bm bp bl most cap N M clock F B) (l : Le h h') : BSt h' bb bm bp bl most cap N M clock F B := ⟨s.is.le l, s.ids, s.wb, s.len, s.cap⟩
theorem fullErr_w {h : Heap} {bb bm bp bl most cap N : Nat} {M : List HE} {clock : Nat} {F : List Int} {B : List Bool} (s : BSt h bb bm bp bl most cap N M clock F B) (hlo : h.lo ≤ h.nx) (hm : 1 ≤ most ∧ most ≤ 12) {v : Value} {K : List HE} (t : Told h M v K) (c : Int)
    (hc : c = 2 ∨ c = 4 ∨ (c = 8 ∧ (F = [] ∨ most ≤ M.length))) (κ : Value → Heap → Prop) (hk : ∀ h', κ (.bool true) h') :
    rs_5_4 (.pointer (some ⟨bb, 0, none⟩)) v (.pointer (some ⟨bp, 0, none⟩)) (.int .i64 ((B.length : Int) - F.length)) (.int .i64 0) (.bool false) (.int .i64 c) h κ := by
  have hll := lent_len s.is.pool.ok
  have hsm := s.is.pool.small
  simp (disch := first | omega | (simp only [Wx]; done) | (simp only [Wy]; done) | (simp only [Wv]; omega) | with_unfolding_all rfl) only [Wz, ptrTo, sliceTo, rs_5_4]
  refine told_w s hlo hm.2 _ ?_
  intro v1 h1 K1 t1 le1
  have n1 := le1.nx
  have l1 := le1.lo
  refine sameNow_w (s.le le1) hm.2 t1 (t.le le1) _ ?_
  simp (disch := first | omega | (simp only [Wx]; done) | (simp only [Wy]; done) | (simp only [Wv]; omega) | with_unfolding_all rfl) only [Wz, ptrTo, sliceTo]
  refine live_w bp bl F B h1 _ (s.is.le le1).pool (by omega) ?_
  simp (disch := first | omega | (simp only [Wx]; done) | (simp only [Wy]; done) | (simp only [Wv]; omega) | with_unfolding_all rfl) only [Wz, ptrTo, sliceTo, dec_t (show (B.length : Int) - F.length = (B.length : Int) - F.length from rfl)]
  rcases hc with rfl | rfl | ⟨rfl, hfull⟩
  · simp (disch := first | omega | (simp only [Wx]; done) | (simp only [Wy]; done) | (simp only [Wv]; omega) | with_unfolding_all rfl) only [Wz, ptrTo, sliceTo, rs_5_2, rs_5_1]
    exact hk h1
  · simp (disch := first | omega | (simp only [Wx]; done) | (simp only [Wy]; done) | (simp only [Wv]; omega) | with_unfolding_all rfl) only [Wz, ptrTo, sliceTo, rs_5_2, rs_5_1]
    exact hk h1
  have s1 := s.le le1
  have hidl := s.ids.length_eq
  have hMQ : ∀ e ∈ M, (idsM M).length ≠ 0 := by
    intro e he h0
    have h1 := (s.is.good e he).ne
    obtain ⟨p, hp⟩ := List.exists_mem_of_ne_nil _ h1
    have : p.id ∈ idsM M := List.mem_flatMap.2 ⟨e, he, List.mem_map.2 ⟨p, hp, rfl⟩⟩
    rw [List.length_eq_zero_iff.1 h0] at this
    nomatch this
  by_cases hz : B.length = F.length
  · have hM0 : M = [] := by
      rw [List.eq_nil_iff_forall_not_mem]
      intro e he
      exact hMQ e he (by omega)
    have hF0 : F = [] := by
      rcases hfull with h0 | h0
      · exact h0
      · rw [hM0, List.length_nil] at h0; omega
    have hB0 : B.length = 0 := by rw [hz, hF0]; rfl
    simp (disch := first | omega | (simp only [Wx]; done) | (simp only [Wy]; done) | (simp only [Wv]; omega) | with_unfolding_all rfl) only [Wz, ptrTo, sliceTo, rs_5_2, dec_t (show (B.length : Int) - F.length = 0 by omega)]
    refine most_w bp bl F B h1 _ s1.is.pool ?_
    simp (disch := first | omega | (simp only [Wx]; done) | (simp only [Wy]; done) | (simp only [Wv]; omega) | with_unfolding_all rfl) only [Wz, ptrTo, sliceTo, dec_t (show (B.length : Int) = 0 by omega)]
    exact hk h1
  · have hM0 : M ≠ [] := by
      rintro rfl
      have : (idsM ([] : List HE)).length = 0 := rfl
      omega
    have hMl := List.length_pos_iff.2 hM0
    have htl := t.len
    obtain ⟨k, hk0⟩ : ∃ k, K[0]? = some k := ⟨_, List.getElem?_eq_getElem (by omega)⟩
    obtain ⟨⟨e, he, se⟩, hqk⟩ := (t.le le1).each k (List.mem_of_getElem? hk0)
    have hkQ : k.Q ≠ [] := by rw [se.2.2.2]; exact (s.is.good e he).ne
    have hkl := List.length_pos_iff.2 hkQ
    obtain ⟨p, hp0⟩ : ∃ p, k.Q[0]? = some p := ⟨_, List.getElem?_eq_getElem hkl⟩
    obtain ⟨b1, o1, _, hx1, _, _, hq1, _⟩ := ldH (t.le le1).sl 0 hk0
    obtain ⟨b2, o2, _, hx2, _, hid2, _⟩ := ld5 hqk.1 0 hp0
    have hx1 : ∀ (β : Type) (fl : β) (h' : Heap) (κ : Value → Heap → β), indexAddrS fl 4 v (.int .i64 0) h' κ = κ (.pointer (some ⟨b1, o1, none⟩)) h' := hx1
    have hx2 : ∀ (β : Type) (fl : β) (h' : Heap) (κ : Value → Heap → β), indexAddrS fl 5 k.q (.int .i64 0) h' κ = κ (.pointer (some ⟨b2, o2, none⟩)) h' := hx2
    rw [slV_sl hqk.1] at hq1
    simp (disch := first | omega | (simp only [Wx]; done) | (simp only [Wy]; done) | (simp only [Wv]; omega) | with_unfolding_all rfl) only [Wz, ptrTo, sliceTo, rs_5_2, dec_f (show ¬ (B.length : Int) - F.length = 0 by omega), rs_5_0, hx1, hq1, hx2, hid2]
    have hpm : p ∈ e.Q := by rw [← se.2.2.2]; exact List.mem_of_getElem? hp0
    have hfe := findQ_mem (s.is.good e he).vq.pair hpm
    refine leaveBk_w s1.is (by omega) s.ids p.id _ ?_ ?_
    · intro h' hno _
      rw [hno e he] at hfe; cases hfe
    · intro h' M' clock' F' v' e' p' n he' hf' hid' hb' hpF mv _
      have hFl := hpF.length_eq
      rw [List.length_append, List.length_singleton] at hFl
      have hll' := lent_len mv.is.pool.ok
      simp (disch := first | omega | (simp only [Wx]; done) | (simp only [Wy]; done) | (simp only [Wv]; omega) | with_unfolding_all rfl) only [Wz, ptrTo, sliceTo]
      refine live_w bp bl F' (B.set n false) h' _ mv.is.pool (by omega) ?_
      rw [List.length_set]
      simp (disch := first | omega | (simp only [Wx]; done) | (simp only [Wy]; done) | (simp only [Wv]; omega) | with_unfolding_all rfl) only [Wz, ptrTo, sliceTo, dec_t (show (B.length : Int) - F'.length = (B.length : Int) - F.length - 1 by omega)]
      exact hk h'
end Go.Proofs

namespace Go.Proofs
open Go.Vai Go.Clashes
theorem noNew {h : Heap} (hno : ∀ c vs t, h.bl.get c ≠ some (cellsO vs t true)) (vs : List Value) (t : TypeId) (n : Nat) : ∀ c ws t', (h.bl.upd n (cellsO vs t false)).get c ≠ some (cellsO ws t' true) := by
  intro c ws t'
  by_cases hc : n = c
  · subst hc
    rw [T.get_upd_same]; exact cells_op
  · rw [T.get_updne _ _ hc]; exact hno c ws t'
theorem lawFull_w (a0 a1 : Int) (L : List Act) (a3 : Act) (h : Heap) (v : Value) (hv : Sl encA h v L) (hlo : h.lo ≤ h.nx) (hno : ∀ c vs t, h.bl.get c ≠ some (cellsO vs t true)) (κ : Value → Heap → Prop) (hk : ∀ h', κ (.bool true) h') :
    CallW Tryz.prog 5 [.int .i64 a0, .int .i64 a1, v, .agg ⟨encA a3⟩] h κ := by
  obtain ⟨x, c, ev, _⟩ := (show Sl encA h v L from hv)
  refine callW_of mixed ?_
  rw [rs_5, ev]
  have hnoA := noNew hno (encA a3) 41 h.nx
  simp (disch := first | omega | (simp only [Wx]; done) | (simp only [Wy]; done) | (simp only [Wv]; omega) | with_unfolding_all rfl) only [Wz, ptrTo, sliceTo, encA]
  obtain ⟨hA, e_hA⟩ : ∃ hA : Heap, hA = ⟨h.nx + 1, h.bl.upd h.nx (cellsO [.int .i64 a3.k, .int .i64 a3.t, .int .i64 a3.r, .int .i64 a3.id, .int .i64 a3.x, .int .i64 a3.m] 41 false), h.lo⟩ := ⟨_, rfl⟩
  have le_hA : Le h hA := by rw [e_hA]; exact (Le.refl h).new _
  have n_hA : hA.nx = h.nx + 1 := by rw [e_hA]
  have l_hA : hA.lo = h.lo := by rw [e_hA]
  have ga : hA.bl.get h.nx = some (cellsO [.int .i64 a3.k, .int .i64 a3.t, .int .i64 a3.r, .int .i64 a3.id, .int .i64 a3.x, .int .i64 a3.m] 41 false) := by rw [e_hA]; exact T.get_upd_same _ _ _
  have hnoB : ∀ c ws t', hA.bl.get c ≠ some (cellsO ws t' true) := by rw [e_hA]; exact hnoA
  rw [← e_hA]
  clear e_hA
  refine closedW mixed lives_a ?_
  by_cases h50 : L.length ≤ 50
  case neg =>
    simp (disch := first | omega | (simp only [Wx]; done) | (simp only [Wy]; done) | (simp only [Wv]; omega) | with_unfolding_all rfl) only [Wz, ptrTo, sliceTo, dec_t (show (50 : Int) < (L.length : Int) by omega)]
    exact hk hA
  simp (disch := first | omega | (simp only [Wx]; done) | (simp only [Wy]; done) | (simp only [Wv]; omega) | with_unfolding_all rfl) only [Wz, ptrTo, sliceTo, lt_f (show (L.length : Int) ≤ 50 by omega), rs_5_7]
  obtain ⟨r1, r2⟩ := pickM_range (n := a0) (m := 4) (by omega)
  obtain ⟨r3, r4⟩ := pickM_range (n := a1) (m := 8) (by omega)
  obtain ⟨hd, ehd⟩ : ∃ n : Nat, pickM a0 4 = (n : Int) := ⟨(pickM a0 4).toNat, by omega⟩
  obtain ⟨mo, emo⟩ : ∃ n : Nat, pickM a1 8 = (n : Int) := ⟨(pickM a1 8).toNat, by omega⟩
  refine pick_w a0 4 (by omega) ?_
  rw [ehd]
  simp (disch := first | omega | (simp only [Wx]; done) | (simp only [Wy]; done) | (simp only [Wv]; omega) | with_unfolding_all rfl) only [Wz, ptrTo, sliceTo]
  refine pick_w a1 8 (by omega) ?_
  rw [emo, show (1 : Int) + (hd : Int) = ((1 + hd : Nat) : Int) by omega]
  refine made_w (1 + hd) mo hA _ (by omega) (by omega) (by omega) ?_
  intro h1 bb bm bp bl F0 s0 gbb gbm gbp gbl hF0 fr0
  simp (disch := first | omega | (simp only [Wx]; done) | (simp only [Wy]; done) | (simp only [Wv]; omega) | with_unfolding_all rfl) only [Wz, ptrTo, sliceTo]
  have le1 := fr0.le hnoB gbm gbp gbl
  refine ⟨fun m l h2 => ∃ (i : Nat) (M : List HE) (clock : Nat) (F : List Int) (B : List Bool), slot l 12 = .int .i64 (i : Int) ∧ m = L.length - i ∧ i ≤ L.length ∧ BSt h2 bb bm bp bl (1 + hd) mo i M clock F B ∧ FrQ bm bp bl hA h2, ⟨_, 0, [], 0, F0, _, rfl, rfl, by omega, s0, fr0⟩, ?_⟩
  rintro m l h2 ⟨i, M, clock, F, B, s1, rfl, hi, s, fr⟩
  have le2 := fr.le hnoB gbm gbp gbl
  have n2 := le2.nx
  have l2 := le2.lo
  by_cases hst : i < L.length
  · obtain ⟨q, hq⟩ : ∃ q, L[i]? = some q := ⟨_, List.getElem?_eq_getElem hst⟩
    obtain ⟨b1, o1, hb1, hat1, _, hh1⟩ := (hv.le (le_hA.trans le2)).ld encA_len i hq
    have rr := fun (β : Type) (fl : β) κ => ldA_has (fl := fl) hh1 6 κ rfl
    rw [ev] at hat1
    simp (disch := first | omega | (simp only [Wx]; done) | (simp only [Wy]; done) | (simp only [Wv]; omega) | with_unfolding_all rfl) only [Wz, ptrTo, sliceTo, rs_5_6, s1, lt_t (show (i : Int) < (L.length : Int) by omega), hat1, rr]
    refine call_w s (by omega) (by omega) q _ ?_
    intro h3 M' clock' F' B' s3 fr3
    exact ⟨_, by omega, i + 1, M', clock', F', B', rfl, rfl, by omega, s3, fr.trans fr3⟩
  · have ga2 := (le2.get _ (by omega)).trans ga
    simp (disch := first | omega | (simp only [Wx]; done) | (simp only [Wy]; done) | (simp only [Wv]; omega) | with_unfolding_all rfl) only [Wz, ptrTo, sliceTo, rs_5_6, s1, lt_f (show (L.length : Int) ≤ (i : Int) by omega), rs_5_5]
    refine told_w s (by omega) (by omega) _ ?_
    intro v3 h3 K t3 le3
    have n3 := le3.nx
    have l3 := le3.lo
    have s3 := s.le le3
    have hll := lent_len s3.is.pool.ok
    have hsm := s3.is.pool.small
    refine live_w bp bl F B h3 _ s3.is.pool (by omega) ?_
    have ga3 := (le3.get _ (by omega)).trans ga2
    simp (disch := first | omega | (simp only [Wx]; done) | (simp only [Wy]; done) | (simp only [Wv]; omega) | with_unfolding_all rfl) only [Wz, ptrTo, sliceTo, ga3]
    refine askBk_w s3.is (by omega) s3.ids i (by omega) s3.wb a3.t a3.r a3.x a3.m _ ?_ ?_ ?_ ?_
    · intro h4 _ le4
      have n4 := le4.nx
      have l4 := le4.lo
      simp (disch := first | omega | (simp only [Wx]; done) | (simp only [Wy]; done) | (simp only [Wv]; omega) | with_unfolding_all rfl) only [Wz, ptrTo, sliceTo]
      exact fullErr_w (s3.le le4) (by omega) (by omega) (t3.le le4) 2 (.inl rfl) κ hk
    · intro h4 e p _ _ _ _ _ _ le4
      have n4 := le4.nx
      have l4 := le4.lo
      simp (disch := first | omega | (simp only [Wx]; done) | (simp only [Wy]; done) | (simp only [Wv]; omega) | with_unfolding_all rfl) only [Wz, ptrTo, sliceTo]
      exact fullErr_w (s3.le le4) (by omega) (by omega) (t3.le le4) 4 (.inr (.inl rfl)) κ hk
    · intro h4 _ _ hf le4
      have n4 := le4.nx
      have l4 := le4.lo
      simp (disch := first | omega | (simp only [Wx]; done) | (simp only [Wy]; done) | (simp only [Wv]; omega) | with_unfolding_all rfl) only [Wz, ptrTo, sliceTo]
      exact fullErr_w (s3.le le4) (by omega) (by omega) (t3.le le4) 8 (.inr (.inr ⟨rfl, hf.imp id fun h => h.2⟩)) κ hk
    · intro M' clock' F' h4 n g am _ ak
      have n4 := ak.fr.nx
      have l4 := ak.fr.lo
      have le4 := (((fr.trans (FrQ.of_le le3)).trans ak.fr)).le hnoB gbm gbp gbl
      simp (disch := first | omega | (simp only [Wx]; done) | (simp only [Wy]; done) | (simp only [Wv]; omega) | with_unfolding_all rfl) only [Wz, ptrTo, sliceTo]
      exact fullOk_w s3 a3 h.nx am ak (by omega) (by omega) ((le4.get _ (by omega)).trans ga) κ hk
end Go.Proofs
