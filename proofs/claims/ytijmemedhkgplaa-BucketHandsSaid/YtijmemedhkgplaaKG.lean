/-
  PROVED HERE: a part of the proof, by a calculus of weakest conditions over an abstract heap (H51, H52).
-/
import Derived.Test.YtijmemedhkgplaaKF
set_option linter.unusedVariables false
set_option linter.unusedSimpArgs false
set_option maxRecDepth 100000
set_option maxHeartbeats 4000000
namespace Go.Proofs
open Go.Vai Go.Clashes
/-! ## handing changes nothing of what can be granted -/
def eraseX (r : R5) : R5 := ⟨r.id, 0, r.m, r.w, r.s⟩
theorem less_erase (Q : List R5) (r : R5) (o : Option Nat) : lessQ (Q.map eraseX) (eraseX r) o = lessQ Q r o := by
  cases o with
  | none => rfl
  | some b =>
    unfold lessQ
    simp only [List.getElem?_map]
    cases Q[b]? <;> rfl
theorem best_erase (Q : List R5) : ∀ k, best (Q.map eraseX) k = best Q k := by
  intro k
  induction k with
  | zero => rfl
  | succ k ih =>
    unfold best
    rw [List.getElem?_map, ih]
    cases Q[k]? with
    | none => rfl
    | some r =>
      show (if (upR (eraseX r) && lessQ (Q.map eraseX) (eraseX r) (best Q k)) = true then _ else _) = _
      rw [less_erase]; rfl
theorem first_erase (Q : List R5) : firstQ (Q.map eraseX) = firstQ Q := by
  unfold firstQ
  rw [List.length_map, best_erase, List.findIdx?_map]
  rfl
theorem fits_erase (Q : List R5) (r : R5) : fitsQ (Q.map eraseX) (eraseX r) = fitsQ Q r := by
  unfold fitsQ
  rw [List.any_map]
  rfl
theorem stuck_erase {Q : List R5} : stuckQ (Q.map eraseX) ↔ stuckQ Q := by
  constructor
  · intro h i r hf hr
    have := h i (eraseX r) (by rw [first_erase]; exact hf) (by rw [List.getElem?_map, hr]; rfl)
    rwa [fits_erase] at this
  · intro h i r hf hr
    rw [first_erase] at hf
    rw [List.getElem?_map] at hr
    cases hq : Q[i]? with
    | none => rw [hq] at hr; cases hr
    | some p =>
      rw [hq] at hr
      cases hr
      rw [fits_erase]
      exact h i p hf hq
theorem hand_erase {Q : List R5} {i : Nat} {p : R5} (hp : Q[i]? = some p) (x : Int) : (Q.set i (handR p x)).map eraseX = Q.map eraseX := by
  refine List.ext_getElem? fun k => ?_
  rw [List.getElem?_map, List.getElem?_map, List.getElem?_set]
  split
  · rename_i e; subst e
    rw [hp, if_pos (List.getElem?_eq_some_iff.1 hp).1]; rfl
  · rfl
theorem hand_stuck {Q : List R5} {i : Nat} {p : R5} (hp : Q[i]? = some p) (x : Int) (h : stuckQ Q) : stuckQ (Q.set i (handR p x)) := by
  rw [← stuck_erase, hand_erase hp, stuck_erase]; exact h
theorem hand_back {Q : List R5} {i : Nat} {p : R5} (hp : Q[i]? = some p) (x : Int) : (Q.set i (handR p x)).set i (handR (handR p x) p.x) = Q := by
  rw [List.set_set]
  refine List.ext_getElem? fun k => ?_
  rw [List.getElem?_set]
  split
  · rename_i e; subst e
    rw [hp, if_pos (List.getElem?_eq_some_iff.1 hp).1]; rfl
  · rfl
/-! ## a list of heads that was told outlasts a call -/
structure Told2 (h : Heap) (M : List HE) (v : Value) (K : List HE) : Prop where
  told : Told h M v K
  ty : TyS 64 h v
theorem FrQ.keep {h h' : Heap} {bb bm bp bl most clock : Nat} {M : List HE} {F : List Int} {B : List Bool} (s : BucketIs h bb bm bp bl most M clock F B) (f : FrQ bm bp bl h h') {c : Nat} {vs : List Value} {ty : TypeId} {op : Bool} (hc : c < h.nx) (hg : h.bl.get c = some (cellsO vs ty op)) (h1 : ty ≠ 86) (h2 : ty ≠ 4) (h3 : ty ≠ 3) : h'.bl.get c = h.bl.get c := by
  obtain ⟨fs, hgp, hpt⟩ := s.pool.fr.cell
  have gl := s.pool.cell
  have gm := s.cellm
  exact f.get c hc (by rintro rfl; rw [hg] at gm; exact cells_map gm.symm) (by rintro rfl; rw [hg] at hgp; exact cells_ty h1 hgp) (by rintro rfl; rw [hg] at gl; exact cells_ty h2 gl) fun ws => by rw [hg]; exact cells_ty h3
theorem Told2.keep {h h' : Heap} {bb bm bp bl most clock : Nat} {M M0 : List HE} {F : List Int} {B : List Bool} (s : BucketIs h bb bm bp bl most M clock F B) (f : FrQ bm bp bl h h') {v : Value} {K : List HE} (t : Told2 h M0 v K) : Told2 h' M0 v K := by
  have fn := f.nx
  refine ⟨⟨t.told.len, t.told.perm, t.told.srt, fun k hk => ⟨(t.told.each k hk).1, (t.told.each k hk).2.frame fn fun c vs op hc hg => f.keep s hc hg (by decide) (by decide) (by decide)⟩, ?_⟩, ?_⟩
  · obtain ⟨x, cap, rfl, h2⟩ := t.told.sl
    refine ⟨x, cap, rfl, fun hne => ?_⟩
    obtain ⟨b, o, rfl, h3, h4⟩ := h2 hne
    obtain ⟨h1, vs, op, h5⟩ := t.ty b o _ cap rfl (by intro h0; exact hne (List.eq_nil_of_length_eq_zero h0))
    refine ⟨b, o, rfl, Nat.lt_of_lt_of_le h3 fn, ?_⟩
    rw [f.keep s h1 h5 (by decide) (by decide) (by decide)]; exact h4
  · intro b o n c hv hn0
    obtain ⟨h1, vs, op, h2⟩ := t.ty b o n c hv hn0
    exact ⟨Nat.lt_of_lt_of_le h1 fn, vs, op, (f.keep s h1 h2 (by decide) (by decide) (by decide)).trans h2⟩
theorem Told2.le {h h' : Heap} {M : List HE} {v : Value} {K : List HE} (t : Told2 h M v K) (l : Le h h') : Told2 h' M v K := ⟨t.told.le l, t.ty.le l⟩
theorem told2_w {h : Heap} {bb bm bp bl most cap N : Nat} {M : List HE} {clock : Nat} {F : List Int} {B : List Bool} (s : BSt h bb bm bp bl most cap N M clock F B) (hlo : h.lo ≤ h.nx) (hm : most ≤ 12) (κ : Value → Heap → Prop)
    (hk : ∀ v h' K, Told2 h' M v K → Le h h' → κ v h') : CallW Try.prog 8 [.pointer (some ⟨bb, 0, none⟩)] h κ := by
  have hl := s.len
  refine headsBk_w s.is hlo (by omega) _ ?_
  intro v h' K h1 h2 h3 h4 h5 le
  exact hk v h' K ⟨⟨h1, h2, h3, h4, h5.sl⟩, TyS.own h5⟩ le
/-! ## a head is changed, and the names are as they were -/
theorem Settled.has {M M' : List HE} {t r w : Int} {Q : List R5} (s : Settled M M' t r w Q) (hne : Q ≠ []) : ∃ e ∈ M', e.t = t ∧ e.r = r ∧ e.w = w ∧ e.Q = Q := by
  obtain ⟨e, h1, h2, h3, h4, hp⟩ := s.put hne
  exact ⟨e, hp.mem_iff.2 (List.mem_append.2 (.inr (.head _))), h1, h2, h3, h4⟩
theorem Settled.names {M M' : List HE} {clock : Nat} (o : MapOk M clock) {e : HE} (he : e ∈ M) {w : Int} {Q : List R5} (s : Settled M M' e.t e.r w Q) (hne : Q ≠ []) : (M'.map nmOf).Perm (M.map nmOf) := by
  obtain ⟨e1, h1, h2, _, _, hp⟩ := s.put hne
  have a := hp.map nmOf
  have b := (split_has o he).map nmOf
  rw [List.map_append, List.map_cons, List.map_nil] at a b
  rw [show nmOf e1 = nmOf e from Prod.ext h1 h2] at a
  exact a.trans b.symm
theorem Settled.rest {M M' : List HE} {e x : HE} {w : Int} {Q : List R5} (s : Settled M M' e.t e.r w Q) (hne : Q ≠ []) (hx : x ∈ M) (hn : ¬ (e.t = x.t ∧ e.r = x.r)) : x ∈ M' := by
  obtain ⟨e1, _, _, _, _, hp⟩ := s.put hne
  exact hp.mem_iff.2 (List.mem_append.2 (.inl (List.mem_filter.2 ⟨hx, isN_f.2 hn⟩)))
/-- told before, and told now, of heads that are alike -/
theorem told_alike {h : Heap} {M M' : List HE} {clock : Nat} (o' : MapOk M' clock) (hn : (M'.map nmOf).Perm (M.map nmOf)) (ha : ∀ e ∈ M, ∃ e' ∈ M', SameH e e') {v v' : Value} {K K' : List HE} (t : Told h M v K) (t' : Told h M' v' K') (i : Nat) (a b : HE) (hA : K[i]? = some a) (hB : K'[i]? = some b) : SameH a b := by
  have e := sorted_eq (t.perm.trans (hn.symm.trans t'.perm.symm)) t.srt t'.srt
  have e1 : (K.map nmOf)[i]? = (K'.map nmOf)[i]? := by rw [e]
  rw [List.getElem?_map, List.getElem?_map, hA, hB] at e1
  have e2 : nmOf a = nmOf b := Option.some.inj e1
  obtain ⟨x, hx, sx⟩ := (t.each a (List.mem_of_getElem? hA)).1
  obtain ⟨x', hx', sx'⟩ := ha x hx
  obtain ⟨y, hy, sy⟩ := (t'.each b (List.mem_of_getElem? hB)).1
  have ht : a.t = b.t := congrArg Prod.fst e2
  have hr : a.r = b.r := congrArg Prod.snd e2
  have := o'.uniq hx' hy (by rw [← sx'.1, ← sx.1, ← sy.1]; exact ht) (by rw [← sx'.2.1, ← sx.2.1, ← sy.2.1]; exact hr)
  subst this
  exact ⟨ht, hr, (sx.2.2.1.trans sx'.2.2.1).trans sy.2.2.1.symm, (sx.2.2.2.trans sx'.2.2.2).trans sy.2.2.2.symm⟩
end Go.Proofs

namespace Go.Proofs
open Go.Vai Go.Clashes
theorem handsErr_w {h : Heap} {bb bm bp bl most cap N : Nat} {M : List HE} {clock : Nat} {F : List Int} {B : List Bool} (s : BSt h bb bm bp bl most cap N M clock F B) (hlo : h.lo ≤ h.nx) (hm : most ≤ 12) {v : Value} {K : List HE} (t : Told h M v K) (is : Bool) (c : Int)
    (hc : is = true ∨ c = 5) (κ : Value → Heap → Prop) (hk : ∀ h', κ (.bool true) h') :
    rs_3_1 (.pointer (some ⟨bb, 0, none⟩)) v (.bool is) (.int .i64 c) h κ := by
  simp (disch := first | omega | (simp only [Wx]; done) | (simp only [Wy]; done) | (simp only [Wv]; omega) | with_unfolding_all rfl) only [Wz, ptrTo, sliceTo, rs_3_1]
  refine told_w s hlo hm _ ?_
  intro v1 h1 K1 t1 le1
  refine sameNow_w (s.le le1) hm t1 (t.le le1) _ ?_
  cases is with
  | true => simp (disch := first | omega | (simp only [Wx]; done) | (simp only [Wy]; done) | (simp only [Wv]; omega) | with_unfolding_all rfl) only [Wz, ptrTo, sliceTo]; exact hk h1
  | false =>
    have : c = 5 := by rcases hc with h | h; cases h; exact h
    subst this
    simp (disch := first | omega | (simp only [Wx]; done) | (simp only [Wy]; done) | (simp only [Wv]; omega) | with_unfolding_all rfl) only [Wz, ptrTo, sliceTo]
    exact hk h1
theorem lawHands_w (a0 a1 : Int) (L : List Act) (id txn : Int) (h : Heap) (v : Value) (hv : Sl encA h v L) (hlo : h.lo ≤ h.nx) (hno : ∀ c vs t, h.bl.get c ≠ some (cellsO vs t true)) (κ : Value → Heap → Prop) (hk : ∀ h', κ (.bool true) h') :
    CallW Try.prog 3 [.int .i64 a0, .int .i64 a1, v, .int .i64 id, .int .i64 txn] h κ := by
  obtain ⟨x, c, ev, _⟩ := (show Sl encA h v L from hv)
  refine callW_of mixed ?_
  rw [rs_3, ev]
  refine closedW mixed lives_a ?_
  by_cases h50 : L.length ≤ 50
  case neg =>
    simp (disch := first | omega | (simp only [Wx]; done) | (simp only [Wy]; done) | (simp only [Wv]; omega) | with_unfolding_all rfl) only [Wz, ptrTo, sliceTo, dec_t (show (50 : Int) < (L.length : Int) by omega)]
    exact hk h
  simp (disch := first | omega | (simp only [Wx]; done) | (simp only [Wy]; done) | (simp only [Wv]; omega) | with_unfolding_all rfl) only [Wz, ptrTo, sliceTo, lt_f (show (L.length : Int) ≤ 50 by omega), rs_3_5]
  obtain ⟨r1, r2⟩ := pickM_range (n := a0) (m := 5) (by omega)
  obtain ⟨r3, r4⟩ := pickM_range (n := a1) (m := 12) (by omega)
  obtain ⟨hd, ehd⟩ : ∃ n : Nat, pickM a0 5 = (n : Int) := ⟨(pickM a0 5).toNat, by omega⟩
  obtain ⟨mo, emo⟩ : ∃ n : Nat, pickM a1 12 = (n : Int) := ⟨(pickM a1 12).toNat, by omega⟩
  refine pick_w a0 5 (by omega) ?_
  rw [ehd]
  simp (disch := first | omega | (simp only [Wx]; done) | (simp only [Wy]; done) | (simp only [Wv]; omega) | with_unfolding_all rfl) only [Wz, ptrTo, sliceTo]
  refine pick_w a1 12 (by omega) ?_
  rw [emo, show (1 : Int) + (hd : Int) = ((1 + hd : Nat) : Int) by omega]
  refine made_w (1 + hd) mo h _ (by omega) (by omega) (by omega) ?_
  intro h1 bb bm bp bl F0 s0 gbb gbm gbp gbl hF0 fr0
  simp (disch := first | omega | (simp only [Wx]; done) | (simp only [Wy]; done) | (simp only [Wv]; omega) | with_unfolding_all rfl) only [Wz, ptrTo, sliceTo]
  refine ⟨fun m l h2 => ∃ (i : Nat) (M : List HE) (clock : Nat) (F : List Int) (B : List Bool), slot l 12 = .int .i64 (i : Int) ∧ m = L.length - i ∧ i ≤ L.length ∧ BSt h2 bb bm bp bl (1 + hd) mo i M clock F B ∧ FrQ bm bp bl h h2, ⟨_, 0, [], 0, F0, _, rfl, rfl, by omega, s0, fr0⟩, ?_⟩
  rintro m l h2 ⟨i, M, clock, F, B, s1, rfl, hi, s, fr⟩
  have le2 := fr.le hno gbm gbp gbl
  have n2 := le2.nx
  have l2 := le2.lo
  by_cases hst : i < L.length
  · obtain ⟨q, hq⟩ : ∃ q, L[i]? = some q := ⟨_, List.getElem?_eq_getElem hst⟩
    obtain ⟨b1, o1, hb1, hat1, _, hh1⟩ := (hv.le le2).ld encA_len i hq
    have rr := fun (β : Type) (fl : β) κ => ldA_has (fl := fl) hh1 6 κ rfl
    rw [ev] at hat1
    simp (disch := first | omega | (simp only [Wx]; done) | (simp only [Wy]; done) | (simp only [Wv]; omega) | with_unfolding_all rfl) only [Wz, ptrTo, sliceTo, rs_3_4, s1, lt_t (show (i : Int) < (L.length : Int) by omega), hat1, rr]
    refine call_w s (by omega) (by omega) q _ ?_
    intro h3 M' clock' F' B' s3 fr3
    exact ⟨_, by omega, i + 1, M', clock', F', B', rfl, rfl, by omega, s3, fr.trans fr3⟩
  simp (disch := first | omega | (simp only [Wx]; done) | (simp only [Wy]; done) | (simp only [Wv]; omega) | with_unfolding_all rfl) only [Wz, ptrTo, sliceTo, rs_3_4, s1, lt_f (show (L.length : Int) ≤ (i : Int) by omega), rs_3_3]
  refine told2_w s (by omega) (by omega) _ ?_
  intro v3 h3 K t3 le3
  have n3 := le3.nx
  have l3 := le3.lo
  have s3 := s.le le3
  have mk : ∀ (t r : Int) (p : R5) (is : Bool) (h4 : Heap), Le h3 h4 →
      (∀ h5 : Heap, Le h3 h5 → h4.nx < h5.nx → h5.bl.get h4.nx = some (cellsO [.int .i64 t, .int .i64 r] 31 false) → h5.bl.get (h4.nx + 1) = some (blkR p) → CallW Try.prog 10 [.pointer (some ⟨bb, 0, none⟩), .int .i64 id, .int .i64 txn] h5 fun v31 h => True) → True := fun _ _ _ _ _ _ _ => trivial
  clear mk
  refine getBk_w s3.is (by omega) id _ ?_ ?_
  · intro h4 hnone le4
    have n4 := le4.nx
    have l4 := le4.lo
    simp (disch := first | omega | (simp only [Wx]; done) | (simp only [Wy]; done) | (simp only [Wv]; omega) | with_unfolding_all rfl) only [Wz, ptrTo, sliceTo, nmV, enc5]
    obtain ⟨h5, e5⟩ : ∃ h5 : Heap, h5 = ⟨h4.nx + 1 + 1, (((h4.bl.upd h4.nx (cellsO [.int .i64 0, .int .i64 0] 31 false)).upd (h4.nx + 1) (blkR ⟨0, 0, 0, 0, 0⟩)).upd h4.nx (cellsO [.int .i64 0, .int .i64 0] 31 false)).upd (h4.nx + 1) (cellsO [.int .i64 0, .int .i64 0, .int .i64 0, .int .i64 0, .int .i64 0] 38 false), h4.lo⟩ := ⟨_, rfl⟩
    have le5 : Le h4 h5 := by rw [e5]; exact ((((Le.refl h4).new _).new _).set (b := h4.nx) (Nat.le_refl _) _).set (b := h4.nx + 1) (by omega) _
    try rw [← e5]
    clear e5
    have n5 := le5.nx
    have l5 := le5.lo
    have s5 := (s3.le le4).le le5
    have t5 := (t3.le le4).le le5
    refine handBk_w s5.is (by omega) id txn _ ?_ ?_ ?_ ?_
    · intro h6 _ le6
      have n6 := le6.nx
      have l6 := le6.lo
      simp (disch := first | omega | (simp only [Wx]; done) | (simp only [Wy]; done) | (simp only [Wv]; omega) | with_unfolding_all rfl) only [Wz, ptrTo, sliceTo]
      exact handsErr_w (s5.le le6) (by omega) (by omega) (t5.le le6).told false 5 (.inr rfl) κ hk
    · intro h6 e p he hf _ _; rw [hnone e he] at hf; cases hf
    · intro h6 e p he hf _ _ _; rw [hnone e he] at hf; cases hf
    · intro h6 M' clock' e p i' he _ hf _ _ _; rw [hnone e he] at hf; cases hf
  intro h4 e0 p0 he0 hf0 le4
  have n4 := le4.nx
  have l4 := le4.lo
  simp (disch := first | omega | (simp only [Wx]; done) | (simp only [Wy]; done) | (simp only [Wv]; omega) | with_unfolding_all rfl) only [Wz, ptrTo, sliceTo, nmV, enc5]
  obtain ⟨h5, e5⟩ : ∃ h5 : Heap, h5 = ⟨h4.nx + 1 + 1, (((h4.bl.upd h4.nx (cellsO [.int .i64 0, .int .i64 0] 31 false)).upd (h4.nx + 1) (blkR ⟨0, 0, 0, 0, 0⟩)).upd h4.nx (cellsO [.int .i64 e0.t, .int .i64 e0.r] 31 false)).upd (h4.nx + 1) (cellsO [.int .i64 p0.id, .int .i64 p0.x, .int .i64 p0.m, .int .i64 p0.w, .int .i64 p0.s] 38 false), h4.lo⟩ := ⟨_, rfl⟩
  have le5 : Le h4 h5 := by rw [e5]; exact ((((Le.refl h4).new _).new _).set (b := h4.nx) (Nat.le_refl _) _).set (b := h4.nx + 1) (by omega) _
  have gn5 : h5.bl.get h4.nx = some (cellsO [.int .i64 e0.t, .int .i64 e0.r] 31 false) := by rw [e5]; exact (T.get_updne _ _ (by omega)).trans (T.get_upd_same _ _ _)
  have gr5 : h5.bl.get (h4.nx + 1) = some (blkR p0) := by rw [e5]; exact T.get_upd_same _ _ _
  have nx5 : h5.nx = h4.nx + 1 + 1 := by rw [e5]
  try rw [← e5]
  clear e5
  have n5 := le5.nx
  have l5 := le5.lo
  have s5 := (s3.le le4).le le5
  have t5 := (t3.le le4).le le5
  refine handBk_w s5.is (by omega) id txn _ ?_ ?_ ?_ ?_
  · intro h6 hnone _; rw [hnone e0 he0] at hf0; cases hf0
  · intro h6 e p _ _ _ le6
    have n6 := le6.nx
    have l6 := le6.lo
    simp (disch := first | omega | (simp only [Wx]; done) | (simp only [Wy]; done) | (simp only [Wv]; omega) | with_unfolding_all rfl) only [Wz, ptrTo, sliceTo]
    exact handsErr_w (s5.le le6) (by omega) (by omega) (t5.le le6).told true 4 (.inl rfl) κ hk
  · intro h6 e p _ _ _ _ le6
    have n6 := le6.nx
    have l6 := le6.lo
    simp (disch := first | omega | (simp only [Wx]; done) | (simp only [Wy]; done) | (simp only [Wv]; omega) | with_unfolding_all rfl) only [Wz, ptrTo, sliceTo]
    exact handsErr_w (s5.le le6) (by omega) (by omega) (t5.le le6).told true 7 (.inl rfl) κ hk
  intro h6 M6 clock6 e p i6 he hi hf hxo hs mv
  have := s5.ids.uniq he he0 (findQ_some hf).1 (findQ_some hf0).1 (by rw [(findQ_some hf).2, (findQ_some hf0).2])
  subst this
  rw [hf] at hf0
  cases hf0
  have gd := s5.is.good e he
  have hpm := (findQ_some hf).1
  have hpid := (findQ_some hf).2
  have hR := gd.vq.right p0 hpm
  have hs0 : p0.s = 0 := by have := hR.s0; omega
  have hil := (List.getElem?_eq_some_iff.1 hi).1
  have hstk := hand_stuck hi txn gd.stuck
  have hset := mv.set
  rw [scan_end hstk] at hset
  have hne6 : e.Q.set i6 (handR p0 txn) ≠ [] := by rw [Ne, ← List.length_eq_zero_iff, List.length_set]; omega
  have s6 := s5.same he mv (map_set_same hi rfl) (by omega)
  have t6 := t5.keep s5.is mv.fr
  have f6 := mv.fr
  have n6 := f6.nx
  have l6 := f6.lo
  have gn6 := (f6.keep s5.is (by omega) gn5 (by decide) (by decide) (by decide)).trans gn5
  have gr6 := (f6.keep s5.is (by omega) gr5 (by decide) (by decide) (by decide)).trans gr5
  obtain ⟨e1, he1, h1t, h1r, h1w, h1Q⟩ := hset.has hne6
  have hi1 : e1.Q[i6]? = some (handR p0 txn) := by rw [h1Q, List.getElem?_set, if_pos rfl, if_pos hil]
  have hm1 := List.mem_of_getElem? hi1
  have hf1 : findQ e1.Q id = some (handR p0 txn) := by
    have := findQ_mem (s6.is.good e1 he1).vq.pair hm1
    rwa [show (handR p0 txn).id = id from hpid] at this
  simp (disch := first | omega | (simp only [Wx]; done) | (simp only [Wy]; done) | (simp only [Wv]; omega) | with_unfolding_all rfl) only [Wz, ptrTo, sliceTo, rs_3_2]
  refine getBk_w s6.is (by omega) id _ ?_ ?_
  · intro h7 hnone _; rw [hnone e1 he1] at hf1; cases hf1
  intro h7 e7 p7 he7 hf7 le7
  have n7 := le7.nx
  have l7 := le7.lo
  have := s6.ids.uniq he7 he1 (findQ_some hf7).1 (findQ_some hf1).1 (by rw [(findQ_some hf7).2, (findQ_some hf1).2])
  subst this
  rw [hf1] at hf7
  cases hf7
  have gn7 := (le7.get _ (by omega)).trans gn6
  have gr7 := (le7.get _ (by omega)).trans gr6
  simp (disch := first | omega | (simp only [Wx]; done) | (simp only [Wy]; done) | (simp only [Wv]; omega) | with_unfolding_all rfl) only [Wz, ptrTo, sliceTo, nmV, enc5, gn7]
  obtain ⟨h8, e8⟩ : ∃ h8 : Heap, h8 = ⟨h7.nx + 1 + 1, (((h7.bl.upd h7.nx (cellsO [.int .i64 0, .int .i64 0] 31 false)).upd (h7.nx + 1) (blkR ⟨0, 0, 0, 0, 0⟩)).upd h7.nx (cellsO [.int .i64 e7.t, .int .i64 e7.r] 31 false)).upd (h7.nx + 1) (cellsO [.int .i64 (handR p0 txn).id, .int .i64 (handR p0 txn).x, .int .i64 (handR p0 txn).m, .int .i64 (handR p0 txn).w, .int .i64 (handR p0 txn).s] 38 false), h7.lo⟩ := ⟨_, rfl⟩
  have le8 : Le h7 h8 := by rw [e8]; exact ((((Le.refl h7).new _).new _).set (b := h7.nx) (Nat.le_refl _) _).set (b := h7.nx + 1) (by omega) _
  have g8 : h8.bl.get (h7.nx + 1) = some (blkR (handR p0 txn)) := by rw [e8]; exact T.get_upd_same _ _ _
  have nx8 : h8.nx = h7.nx + 1 + 1 := by rw [e8]
  try rw [← e8]
  clear e8
  have n8 := le8.nx
  have l8 := le8.lo
  have s8 := (s6.le le7).le le8
  have t8 := (t6.le le7).le le8
  have hm8 : handR p0 txn ∈ e7.Q := hm1
  refine findBk_w s8.is (by omega) e.t e.r txn _ ?_ ?_
  · intro h9 hno9 _
    exact absurd rfl (hno9 e7 he1 h1t.symm h1r.symm _ hm8)
  intro h9 e9 p9 he9 ht9 hr9 hp9 hx9 le9
  have n9 := le9.nx
  have l9 := le9.lo
  have := s8.is.ok.uniq he9 he1 (ht9.symm.trans h1t.symm) (hr9.symm.trans h1r.symm)
  subst this
  have vq9 := (s8.is.good e9 he9).vq
  have hpp : p9 = handR p0 txn := by
    obtain ⟨j, hj⟩ := List.getElem?_of_mem hp9
    rcases Nat.lt_trichotomy j i6 with h1 | h1 | h1
    · exact absurd hx9 (pw_get.1 vq9.pair j i6 p9 _ h1 hj hi1).x
    · subst h1; rw [hi1] at hj; exact (Option.some.inj hj).symm
    · exact absurd hx9.symm (pw_get.1 vq9.pair i6 j _ p9 h1 hi1 hj).x
  subst hpp
  have gr9 := (((le8.trans le9).get _ (by omega)).trans gr7)
  have g9 := (le9.get _ (by omega)).trans g8
  simp (disch := first | omega | (simp only [Wx]; done) | (simp only [Wy]; done) | (simp only [Wv]; omega) | with_unfolding_all rfl) only [Wz, ptrTo, sliceTo, gr9, g9, enc5, dec_t hs0, dec_t (show (handR p0 txn).x = txn from rfl), dec_t (show (handR p0 txn).m = p0.m from rfl), dec_t (show (handR p0 txn).id = id from hpid), rs_3_0]
  have s9 := s8.le le9
  have t9 := t8.le le9
  have hx0 : ∀ o ∈ e9.Q, o.id ≠ id → o.x ≠ p0.x := by
    intro o ho ho1 e
    rw [h1Q] at ho
    rcases mem_set ho with h1 | h1
    · rw [h1] at ho1; exact ho1 hpid
    · obtain ⟨j, hj⟩ := List.getElem?_of_mem h1
      rcases Nat.lt_trichotomy j i6 with h2 | h2 | h2
      · exact (pw_get.1 gd.vq.pair j i6 o p0 h2 hj hi).x e
      · subst h2; rw [hi] at hj; cases hj; exact ho1 hpid
      · exact (pw_get.1 gd.vq.pair i6 j p0 o h2 hi hj).x e.symm
  refine handBk_w s9.is (by omega) id p0.x _ ?_ ?_ ?_ ?_
  · intro h10 hnone _; rw [hnone e9 he9] at hf1; cases hf1
  · intro h10 e p he hf ⟨o, ho, ho1, ho2⟩ _
    have := s9.ids.uniq he he9 (findQ_some hf).1 (findQ_some hf1).1 (by rw [(findQ_some hf).2, (findQ_some hf1).2])
    subst this
    exact absurd ho2 (hx0 o ho ho1)
  · intro h10 e p he hf _ hs' _
    have := s9.ids.uniq he he9 (findQ_some hf).1 (findQ_some hf1).1 (by rw [(findQ_some hf).2, (findQ_some hf1).2])
    subst this
    rw [hf1] at hf
    cases hf
    exact absurd hs' hs
  intro h10 M10 clock10 e10 p10 i10 he10 hi10 hf10 _ _ mv10
  have := s9.ids.uniq he10 he9 (findQ_some hf10).1 (findQ_some hf1).1 (by rw [(findQ_some hf10).2, (findQ_some hf1).2])
  subst this
  rw [hf1] at hf10
  cases hf10
  have hii : i10 = i6 := ids_at vq9.pair hi10 hi1 rfl
  subst hii
  have hback : e10.Q.set i10 (handR (handR p0 txn) p0.x) = e.Q := by rw [h1Q]; exact hand_back hi txn
  have hset10 := mv10.set
  rw [hback, scan_end gd.stuck] at hset10
  have s10 := s9.same he9 mv10 (map_set_same hi10 rfl) (by omega)
  have t10 := t9.keep s9.is mv10.fr
  have n10 := mv10.fr.nx
  have l10 := mv10.fr.lo
  have hnm6 := hset.names s5.is.ok he hne6
  have hnm10 := hset10.names s9.is.ok he9 gd.ne
  have alike : ∀ x ∈ M, ∃ x' ∈ M10, SameH x x' := by
    intro x hx
    by_cases hxe : e.t = x.t ∧ e.r = x.r
    · have := s5.is.ok.uniq hx he hxe.1.symm hxe.2.symm
      subst this
      obtain ⟨e2, he2, g1, g2, g3, g4⟩ := hset10.has gd.ne
      exact ⟨e2, he2, by rw [g1, h1t], by rw [g2, h1r], by rw [g3, h1w], g4.symm⟩
    · have h6x := hset.rest hne6 hx hxe
      exact ⟨x, hset10.rest gd.ne h6x (by rw [h1t, h1r]; exact hxe), rfl, rfl, rfl, rfl⟩
  simp (disch := first | omega | (simp only [Wx]; done) | (simp only [Wy]; done) | (simp only [Wv]; omega) | with_unfolding_all rfl) only [Wz, ptrTo, sliceTo]
  refine told_w s10 (by omega) (by omega) _ ?_
  intro v11 h11 K11 t11 le11
  have n11 := le11.nx
  have l11 := le11.lo
  have s11 := s10.le le11
  have hK1 := t10.told.len
  have hK2 := t11.len
  have hlM := s.len
  have hl10 := s10.len
  have hMM : M10.length = M.length := by
    have := (hnm10.trans hnm6).length_eq
    simpa using this
  refine sameH_w K11 K v11 v3 h11 _ t11.sl (t10.told.le le11).sl (by omega) (by omega) (fun i a b ha hb => ?_) ?_
  · have sm := told_alike s10.is.ok (hnm10.trans hnm6) alike (t10.told.le le11) t11 i b a hb ha
    obtain ⟨⟨y, hy, sy⟩, qa⟩ := t11.each a (List.mem_of_getElem? ha)
    have qb := ((t10.told.le le11).each b (List.mem_of_getElem? hb)).2
    have := (s10.is.good y hy).small
    exact ⟨⟨sm.1.symm, sm.2.1.symm, sm.2.2.1.symm, sm.2.2.2.symm⟩, qa.1, qb.1, by rw [sy.2.2.2]; omega⟩
  obtain ⟨n, hn, hbn⟩ := s5.ids.find he hpm
  refine has_w bp bl F B id h11 _ s11.is.pool ?_
  have eh : (decide (0 ≤ id) && (B[id.toNat]?).getD false) = true := by
    rw [← hpid, hn, dec_t (by omega), Int.toNat_natCast, hbn]; rfl
  rw [eh]
  simp (disch := first | omega | (simp only [Wx]; done) | (simp only [Wy]; done) | (simp only [Wv]; omega) | with_unfolding_all rfl) only [Wz, ptrTo, sliceTo]
  exact hk h11
end Go.Proofs
