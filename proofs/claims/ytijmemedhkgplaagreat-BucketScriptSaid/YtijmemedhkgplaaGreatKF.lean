/-
  PROVED HERE: a part of the proof, by a calculus of weakest conditions over an abstract heap (K37, K38, K39, K40).
-/
import Derived.Test.YtijmemedhkgplaaGreatKE
import Derived.Test.YtijmemedhkgplaaGreatV3
set_option linter.unusedVariables false
set_option linter.unusedSimpArgs false
set_option maxRecDepth 100000
namespace Go.Proofs
open Go.Vai Go.Clashes
theorem eqRk (h : Heap) (a b c d e a' b' c' d' e' : Int) : eqB Tryz.prog h 100 47 (.agg ⟨[.int .i64 a, .int .i64 b, .int .i64 c, .int .i64 d, .int .i64 e]⟩) (.agg ⟨[.int .i64 a', .int .i64 b', .int .i64 c', .int .i64 d', .int .i64 e']⟩) =
    (match (some (ieqB a a')) with | some true => (match some (ieqB b b') with | some true => (match some (ieqB c c') with | some true => (match some (ieqB d d') with | some true => (match some (ieqB e e') with | some true => some true | r => r) | r => r) | r => r) | r => r) | r => r) := by kernel_rfl
theorem eqR (h : Heap) (a b c d e : Int) : eqB Tryz.prog h 100 47 (.agg ⟨[.int .i64 a, .int .i64 b, .int .i64 c, .int .i64 d, .int .i64 e]⟩) (.agg ⟨[.int .i64 a, .int .i64 b, .int .i64 c, .int .i64 d, .int .i64 e]⟩) = some true := by
  rw [eqRk]; simp only [ieqB_eq, decide_true]
theorem bin_neR {β : Type} {fl : β} (cn : Bool) (a b c d e : Int) (h : Heap) (κ : Value → Heap → β) : binB fl Tryz.prog .neq 47 cn false (.agg ⟨[.int .i64 a, .int .i64 b, .int .i64 c, .int .i64 d, .int .i64 e]⟩) (.agg ⟨[.int .i64 a, .int .i64 b, .int .i64 c, .int .i64 d, .int .i64 e]⟩) h κ = κ (.bool false) h := by
  simp only [binB, eqR, fbK_eq, Bool.not_true]
theorem bin_neN {β : Type} {fl : β} (cn : Bool) (a b c d : Int) (h : Heap) (κ : Value → Heap → β) : binB fl Tryz.prog .neq 38 cn false (.agg ⟨[.int .i64 a, .int .i64 b]⟩) (.agg ⟨[.int .i64 c, .int .i64 d]⟩) h κ = κ (.bool (!decide (a = c ∧ b = d))) h := by
  have := eqN h a b c d
  unfold nmV at this
  simp only [binB, this, fbK_eq]
theorem bin_neNs {β : Type} {fl : β} (cn : Bool) (a b : Int) (h : Heap) (κ : Value → Heap → β) : binB fl Tryz.prog .neq 38 cn false (.agg ⟨[.int .i64 a, .int .i64 b]⟩) (.agg ⟨[.int .i64 a, .int .i64 b]⟩) h κ = κ (.bool false) h := by
  rw [bin_neN]; simp
theorem bin_eqN {β : Type} {fl : β} (cn : Bool) (a b c d : Int) (h : Heap) (κ : Value → Heap → β) : binB fl Tryz.prog .eql 38 cn false (.agg ⟨[.int .i64 a, .int .i64 b]⟩) (.agg ⟨[.int .i64 c, .int .i64 d]⟩) h κ = κ (.bool (decide (a = c ∧ b = d))) h := by
  have := eqN h a b c d
  unfold nmV at this
  simp only [binB, this, fbK_eq]
theorem sameR_w (Q : List R5) (v1 v2 : Value) (h : Heap) (κ : Value → Heap → Prop) (h1 : Sl enc5 h v1 Q) (h2 : Sl enc5 h v2 Q) (hl : Q.length ≤ 1000) (hk : κ (.bool true) h) : CallW Tryz.prog 43 [v1, v2] h κ := by
  obtain ⟨x1, c1, e1, _⟩ := (show Sl enc5 h v1 Q from h1)
  obtain ⟨x2, c2, e2, _⟩ := (show Sl enc5 h v2 Q from h2)
  refine callW_of mixed ?_
  rw [rs_43]
  rw [e1, e2]
  simp(disch:=first|omega|(simp only[Wx];done)|(simp only[Wy];done)|(simp only[Wv];omega)|with_unfolding_all rfl)only[Wz,ptrTo,sliceTo]
  refine ⟨fun m l h' => ∃ i : Nat, slot l 16 = .int .i64 (i : Int) ∧ m = Q.length - i ∧ i ≤ Q.length ∧ HQ h h', ⟨_, 0, rfl, rfl, by omega, rfl⟩, ?_⟩
  rintro m l h' ⟨i, s1, rfl, hi, hq⟩
  cases (show h = h' from hq)
  by_cases hlt : i < Q.length
  · obtain ⟨p, hp⟩ : ∃ p, Q[i]? = some p := ⟨_, List.getElem?_eq_getElem hlt⟩
    obtain ⟨b1, o1, _, hx1, hr1, _⟩ := ld5 h1 i hp
    obtain ⟨b2, o2, _, hx2, hr2, _⟩ := ld5 h2 i hp
    rw [e1] at hx1
    rw [e2] at hx2
    simp(disch:=first|omega|(simp only[Wx];done)|(simp only[Wy];done)|(simp only[Wv];omega)|with_unfolding_all rfl)only[Wz,ptrTo,sliceTo, s1, lt_t (show (i : Int) < (Q.length : Int) by omega), rs_43_0, hx1, hr1, hx2, hr2, enc5, bin_neR]
    exact ⟨_, by omega, i + 1, rfl, rfl, by omega, rfl⟩
  · simp(disch:=first|omega|(simp only[Wx];done)|(simp only[Wy];done)|(simp only[Wv];omega)|with_unfolding_all rfl)only[Wz,ptrTo,sliceTo, s1, lt_f (show (Q.length : Int) ≤ (i : Int) by omega)]
    exact hk
theorem ldH {h : Heap} {v : Value} {K : List HE} (hs : Sl encH h v K) (i : Nat) {e : HE} (hp : K[i]? = some e) :
    ∃ b o, b < h.nx ∧ (∀ (β : Type) (fl : β) (h' : Heap) (κ : Value → Heap → β), indexAddrS fl 4 v (.int .i64 (i : Int)) h' κ = κ (.pointer (some ⟨b, o, none⟩)) h') ∧
      ((∀ (β : Type) (fl : β) (κ : List Value → β), ldA fl (h.bl.get b) o 2 κ = κ [.int .i64 e.t, .int .i64 e.r]) ∧
      (∀ (β : Type) (fl : β) (κ : List Value → β), ldA fl (h.bl.get b) o 4 κ = κ (encH e)) ∧
      (∀ (β : Type) (fl : β) (κ : Value → β), ldO fl (h.bl.get b) (o + 2) κ = κ (slV e.q)) ∧
      (∀ (β : Type) (fl : β) (κ : Value → β), ldO fl (h.bl.get b) (o + 3) κ = κ (.int .i64 e.w))) := by
  obtain ⟨b, o, h1, h2, h3, hh⟩ := hs.ld encH_len i hp
  refine ⟨b, o, h1, h2, ?_, ?_, ?_, ?_⟩
  · intro β fl κ
    have := hh.sub 0 2 (by show 0 + 2 ≤ 4; omega)
    rw [Nat.add_zero] at this
    exact ldA_has this 2 κ rfl
  · intro β fl κ; exact ldA_has hh 4 κ rfl
  · intro β fl κ; exact ldO_has (fl := fl) hh 2 κ (by show 2 < 4; omega)
  · intro β fl κ; exact ldO_has (fl := fl) hh 3 κ (by show 3 < 4; omega)
theorem sameH_w (K1 K2 : List HE) (v1 v2 : Value) (h : Heap) (κ : Value → Heap → Prop) (h1 : Sl encH h v1 K1) (h2 : Sl encH h v2 K2) (hl : K1.length ≤ 1000000) (hll : K2.length = K1.length)
    (hs : ∀ (i : Nat) (a b : HE), K1[i]? = some a → K2[i]? = some b → SameH a b ∧ Sl enc5 h a.q a.Q ∧ Sl enc5 h b.q b.Q ∧ a.Q.length ≤ 1000) (hk : κ (.bool true) h) : CallW Tryz.prog 12 [v1, v2] h κ := by
  obtain ⟨x1, c1, e1, _⟩ := (show Sl encH h v1 K1 from h1)
  obtain ⟨x2, c2, e2, _⟩ := (show Sl encH h v2 K2 from h2)
  refine callW_of mixed ?_
  rw [rs_12]
  rw [e1, e2]
  simp(disch:=first|omega|(simp only[Wx];done)|(simp only[Wy];done)|(simp only[Wv];omega)|with_unfolding_all rfl)only[Wz,ptrTo,sliceTo, hll]
  refine ⟨fun m l h' => ∃ i : Nat, slot l 45 = .int .i64 (i : Int) ∧ m = K1.length - i ∧ i ≤ K1.length ∧ HQ h h', ⟨_, 0, rfl, rfl, by omega, rfl⟩, ?_⟩
  rintro m l h' ⟨i, s1, rfl, hi, hq⟩
  cases (show h = h' from hq)
  by_cases hlt : i < K1.length
  · obtain ⟨p, hp⟩ : ∃ p, K1[i]? = some p := ⟨_, List.getElem?_eq_getElem hlt⟩
    obtain ⟨q, hq⟩ : ∃ p, K2[i]? = some p := ⟨_, List.getElem?_eq_getElem (by omega)⟩
    obtain ⟨⟨ht, hr, hw, hQ⟩, hs1, hs2, hl1⟩ := hs i p q hp hq
    obtain ⟨b1, o1, _, hx1, hn1, _, hq1, hw1⟩ := ldH h1 i hp
    obtain ⟨b2, o2, _, hx2, hn2, _, hq2, hw2⟩ := ldH h2 i hq
    rw [e1] at hx1
    rw [e2, hll] at hx2
    rw [slV_sl hs1] at hq1
    rw [slV_sl hs2] at hq2
    rw [← ht, ← hr] at hn2
    rw [← hw] at hw2
    simp(disch:=first|omega|(simp only[Wx];done)|(simp only[Wy];done)|(simp only[Wv];omega)|with_unfolding_all rfl)only[Wz,ptrTo,sliceTo, s1, lt_t (show (i : Int) < (K1.length : Int) by omega), rs_12_0, hx1, hn1, hx2, hn2, bin_neNs, hw1, hw2, hq1, hq2]
    refine sameR_w p.Q p.q q.q h _ hs1 (by rw [hQ]; exact hs2) hl1 ?_
    simp(disch:=first|omega|(simp only[Wx];done)|(simp only[Wy];done)|(simp only[Wv];omega)|with_unfolding_all rfl)only[Wz,ptrTo,sliceTo, s1]
    exact ⟨_, by omega, i + 1, rfl, rfl, by omega, rfl⟩
  · simp(disch:=first|omega|(simp only[Wx];done)|(simp only[Wy];done)|(simp only[Wv];omega)|with_unfolding_all rfl)only[Wz,ptrTo,sliceTo, s1, lt_f (show (K1.length : Int) ≤ (i : Int) by omega)]
    exact hk
end Go.Proofs

namespace Go.Proofs
open Go.Vai Go.Clashes
theorem memNo (W : World) : ∀ c vs t, (memH W).bl.get c ≠ some (cellsO vs t true) := by
  intro c vs t h
  obtain ⟨C, e, fz, _, h2⟩ := memH_some h
  unfold cellsO at h2
  cases h2
theorem FrQ.le {h h' : Heap} {bm bp bl : Nat} (f : FrQ bm bp bl h h') (hno : ∀ c vs t, h.bl.get c ≠ some (cellsO vs t true)) (hm : h.nx ≤ bm) (hp : h.nx ≤ bp) (hl : h.nx ≤ bl) : Le h h' :=
  ⟨f.nx, f.lo, fun c hc => f.get c hc (by omega) (by omega) (by omega) fun vs => hno c vs _⟩
theorem best_snoc (Q : List R5) (a : R5) : ∀ i, i ≤ Q.length → best (Q ++ [a]) i = best Q i := by
  intro i
  induction i with
  | zero => intro _; rfl
  | succ i ih =>
    intro hi
    have e1 : (Q ++ [a])[i]? = Q[i]? := List.getElem?_append_left (by omega)
    unfold best
    rw [e1, ih (by omega)]
    split
    · rename_i r hr
      have e2 : lessQ (Q ++ [a]) r (best Q i) = lessQ Q r (best Q i) := by
        unfold lessQ
        split
        · rfl
        · rename_i b hb
          have := (best_lt Q i b hb).1
          rw [List.getElem?_append_left (by omega)]
      rw [e2]
    · rfl
theorem fits_snoc {Q : List R5} {a r : R5} (h : fitsQ Q r = false) : fitsQ (Q ++ [a]) r = false := by
  unfold fitsQ at *
  rw [List.any_append]
  simp only [Bool.not_eq_false'] at h ⊢
  rw [h]; rfl
theorem ask_stuck {Q : List R5} {W : Int} (v : VQ Q W) (hs : stuckQ Q) {id x m : Int} (hm : askedM m = true) : stuckQ (Q ++ [(askR Q W id x m).1]) := by
  obtain ⟨m0, _⟩ := (askedM_iff m).1 hm
  have hup : upR (askR Q W id x m).1 = false := by
    unfold askR upR
    split <;> simp
  have hb : best (Q ++ [(askR Q W id x m).1]) (Q ++ [(askR Q W id x m).1]).length = best Q Q.length := by
    rw [List.length_append, List.length_singleton, ← best_snoc Q (askR Q W id x m).1 _ (Nat.le_refl _)]
    generalize hA : best (Q ++ [(askR Q W id x m).1]) Q.length = B
    unfold best
    rw [List.getElem?_append_right (Nat.le_refl _), Nat.sub_self, List.getElem?_cons_zero]
    simp only [hup, Bool.false_and, hA]
    rfl
  intro i r hf hr
  unfold firstQ at hf
  rw [hb] at hf
  cases hbest : best Q Q.length with
  | some b =>
    rw [hbest] at hf
    have hbi : b = i := Option.some.inj hf
    subst hbi
    have hlt := (best_lt Q _ b hbest).1
    rw [List.getElem?_append_left hlt] at hr
    exact fits_snoc (hs b r (by unfold firstQ; rw [hbest]) hr)
  | none =>
    rw [hbest] at hf
    simp only at hf
    rw [List.findIdx?_append] at hf
    cases hfi : Q.findIdx? (fun r => decide (r.m = 0)) with
    | some j =>
      rw [hfi] at hf
      simp at hf
      subst hf
      have hlt : j < Q.length := by
        have := List.findIdx?_eq_some_iff_getElem.1 hfi
        exact this.1
      rw [List.getElem?_append_left hlt] at hr
      exact fits_snoc (hs j r (by unfold firstQ; rw [hbest]; exact hfi) hr)
    | none =>
      rw [hfi] at hf
      have hfirst : firstQ Q = none := by unfold firstQ; rw [hbest]; exact hfi
      by_cases hg : (decide (firstQ Q = none) && fitsQ Q ⟨id, x, 0, m, 0⟩) = true
      · have ha : (askR Q W id x m).1 = ⟨id, x, m, m, 0⟩ := by unfold askR; rw [if_pos hg]
        rw [ha] at hf
        simp [m0] at hf
      · have ha : (askR Q W id x m).1 = ⟨id, x, 0, m, W + 1⟩ := by unfold askR; rw [if_neg hg]
        rw [ha] at hf hr ⊢
        simp at hf
        subst hf
        rw [List.getElem?_append_right (Nat.le_refl _), Nat.sub_self, List.getElem?_cons_zero] at hr
        cases hr
        refine fits_snoc ?_
        rw [hfirst] at hg
        have : fitsQ Q ⟨id, x, 0, m, 0⟩ = false := by simpa using hg
        exact this
end Go.Proofs

namespace Go.Proofs
open Go.Vai Go.Clashes
theorem IdsOk.uniq {M : List HE} {B : List Bool} (i : IdsOk M B) {e e' : HE} (he : e ∈ M) (he' : e' ∈ M) {p p' : R5} (hp : p ∈ e.Q) (hp' : p' ∈ e'.Q) (h : p.id = p'.id) : e = e' := by
  have hnd : (idsM M).Nodup := (i.nodup_iff).2 (lent_nodup B)
  unfold idsM at hnd
  rw [List.Nodup, List.pairwise_flatMap] at hnd
  have : ∀ (L : List HE), (L.Pairwise fun a₁ a₂ => ∀ x ∈ a₁.Q.map (·.id), ∀ y ∈ a₂.Q.map (·.id), x ≠ y) → e ∈ L → e' ∈ L → e = e' := by
    intro L
    induction L with
    | nil => intro _ h; nomatch h
    | cons a L ih =>
      intro hp1 h1 h2
      rw [List.pairwise_cons] at hp1
      rcases List.mem_cons.1 h1 with rfl | k1 <;> rcases List.mem_cons.1 h2 with rfl | k2
      · rfl
      · exact absurd h (hp1.1 _ k2 _ (List.mem_map.2 ⟨p, hp, rfl⟩) _ (List.mem_map.2 ⟨p', hp', rfl⟩))
      · exact absurd h.symm (hp1.1 _ k1 _ (List.mem_map.2 ⟨p', hp', rfl⟩) _ (List.mem_map.2 ⟨p, hp, rfl⟩))
      · exact ih hp1.2 k1 k2
  exact this M hnd.2 he he'
theorem bin_eqNs {β : Type} {fl : β} (cn : Bool) (a b : Int) (h : Heap) (κ : Value → Heap → β) : binB fl Tryz.prog .eql 38 cn false (.agg ⟨[.int .i64 a, .int .i64 b]⟩) (.agg ⟨[.int .i64 a, .int .i64 b]⟩) h κ = κ (.bool true) h := by
  rw [bin_eqN]; simp
theorem eq39 {β : Type} {fl : β} (cn : Bool) (a b : Bool) (h : Heap) (κ : Value → Heap → β) : binB fl Tryz.prog .eql 4 cn false (.bool a) (.bool b) h κ = κ (.bool (decide (a = b))) h := by
  have und : Tryz.prog.underlying 4 = some .bool := by kernel_rfl
  have e1 : eqB Tryz.prog h 100 4 (.bool a) (.bool b) = some (decide (a = b)) := by
    unfold eqB
    simp only [und]
    cases a <;> cases b <;> exact id rfl
  simp only [binB, e1, fbK_eq]
end Go.Proofs

namespace Go.Proofs
open Go.Vai Go.Clashes
theorem sorted_eq : ∀ {L1 L2 : List (Int × Int)}, L1.Perm L2 → L1.Pairwise ltN → L2.Pairwise ltN → L1 = L2 := by
  intro L1
  induction L1 with
  | nil => intro L2 h _ _; exact (List.nil_perm.1 h).symm
  | cons a L1 ih =>
    intro L2 h h1 h2
    cases L2 with
    | nil => exact absurd h.length_eq (by simp)
    | cons b L2 =>
      rw [List.pairwise_cons] at h1 h2
      by_cases hab : a = b
      · subst hab
        rw [ih (List.Perm.cons_inv h) h1.2 h2.2]
      · exfalso
        have ha : a ∈ L2 := by
          rcases List.mem_cons.1 (h.mem_iff.1 (.head _)) with e | e
          · exact absurd e hab
          · exact e
        have hb : b ∈ L1 := by
          rcases List.mem_cons.1 (h.mem_iff.2 (.head _)) with e | e
          · exact absurd e.symm hab
          · exact e
        have := ltN_trans (h2.1 a ha) (h1.1 b hb)
        unfold ltN at this
        omega
structure Told (h : Heap) (M : List HE) (v : Value) (K : List HE) : Prop where
  len : K.length = M.length
  perm : (K.map nmOf).Perm (M.map nmOf)
  srt : (K.map nmOf).Pairwise ltN
  each : ∀ k ∈ K, (∃ e ∈ M, SameH k e) ∧ QV h k.q k.Q
  sl : Sl encH h v K
theorem Told.le {h h' : Heap} {M : List HE} {v : Value} {K : List HE} (t : Told h M v K) (l : Le h h') : Told h' M v K :=
  ⟨t.len, t.perm, t.srt, fun k hk => ⟨(t.each k hk).1, (t.each k hk).2.le l⟩, t.sl.le l⟩
theorem Told.same {h : Heap} {M : List HE} {clock : Nat} (o : MapOk M clock) {v v' : Value} {K K' : List HE} (t : Told h M v K) (t' : Told h M v' K') (i : Nat) (a b : HE) (ha : K[i]? = some a) (hb : K'[i]? = some b) : SameH a b := by
  have e := sorted_eq (t.perm.trans t'.perm.symm) t.srt t'.srt
  have e1 : (K.map nmOf)[i]? = (K'.map nmOf)[i]? := by rw [e]
  rw [List.getElem?_map, List.getElem?_map, ha, hb] at e1
  have e2 : nmOf a = nmOf b := Option.some.inj e1
  obtain ⟨x, hx, sx⟩ := (t.each a (List.mem_of_getElem? ha)).1
  obtain ⟨y, hy, sy⟩ := (t'.each b (List.mem_of_getElem? hb)).1
  have ht : a.t = b.t := congrArg Prod.fst e2
  have hr : a.r = b.r := congrArg Prod.snd e2
  have := o.uniq hx hy (by rw [← sx.1, ← sy.1]; exact ht) (by rw [← sx.2.1, ← sy.2.1]; exact hr)
  subst this
  exact ⟨ht, hr, sx.2.2.1.trans sy.2.2.1.symm, sx.2.2.2.trans sy.2.2.2.symm⟩
theorem BSt.le {h h' : Heap} {bb bm bp bl most cap N : Nat} {M : List HE} {clock : Nat} {F : List Int} {B : List Bool} (s : BSt h bb bm bp bl most cap N M clock F B) (l : Le h h') : BSt h' bb bm bp bl most cap N M clock F B := ⟨s.is.le l, s.ids, s.wb, s.len, s.cap⟩
end Go.Proofs
