/-
  PROVED HERE: a part of the proof, by a calculus of weakest conditions over an abstract heap (U14, U15, U16).
-/
import Derived.Test.YtijmemedhkgplaaGreatDoorUB
import Derived.Test.YtijmemedhkgplaaGreatDoorRZ
import Derived.Test.YtijmemedhkgplaaGreatDoorKF
set_option linter.unusedVariables false
set_option linter.unusedSimpArgs false
set_option maxRecDepth 100000
set_option maxHeartbeats 1000000
set_option maxHeartbeats 4000000
namespace Go.Proofs
open Go.Vai Go.Clashes
theorem perm_sorted {α : Type} {R : α → α → Prop} : ∀ {L1 L2 : List α}, L1.Perm L2 → L1.Pairwise R → L2.Pairwise R → (∀ a ∈ L1, ∀ b ∈ L1, R a b → R b a → a = b) → L1 = L2 := by
  intro L1
  induction L1 with
  | nil => intro L2 h _ _ _; exact (List.nil_perm.1 h).symm
  | cons a L1 ih =>
    intro L2 h h1 h2 anti
    cases L2 with
    | nil => exact absurd h.length_eq (by simp)
    | cons b L2 =>
      rw [List.pairwise_cons] at h1 h2
      have hab : a = b := by
        rcases List.mem_cons.1 (h.mem_iff.1 (.head _)) with e | ha
        · exact e
        rcases List.mem_cons.1 (h.mem_iff.2 (.head _)) with e | hb
        · exact e.symm
        exact anti a (.head _) b (.tail _ hb) (h1.1 b hb) (h2.1 a ha)
      subst hab
      rw [ih (List.Perm.cons_inv h) h1.2 h2.2 fun x hx y hy => anti x (.tail _ hx) y (.tail _ hy)]
theorem heldE_mem {e : HE} {a : L4} (h : a ∈ heldE e) : ∃ p ∈ e.Q, p.m ≠ 0 ∧ a = ⟨p.x, e.t, e.r, p.m⟩ := by
  unfold heldE heldQ at h
  obtain ⟨p, hp, rfl⟩ := List.mem_map.1 h
  obtain ⟨h1, h2⟩ := List.mem_filter.1 hp
  exact ⟨p, h1, by simpa using h2, rfl⟩
theorem held_key {K : List HE} (hs : (K.map nmOf).Pairwise ltN) (hv : ∀ k ∈ K, k.Q.Pairwise Beside) {a b : L4} (ha : a ∈ K.flatMap heldE) (hb : b ∈ K.flatMap heldE) (hx : a.x = b.x) (ht : a.t = b.t) (hr : a.r = b.r) : a = b := by
  obtain ⟨e, he, ha⟩ := List.mem_flatMap.1 ha
  obtain ⟨f, hf, hb⟩ := List.mem_flatMap.1 hb
  obtain ⟨p, hp, _, rfl⟩ := heldE_mem ha
  obtain ⟨q, hq, _, rfl⟩ := heldE_mem hb
  have hef : e = f := by
    rw [List.pairwise_map] at hs
    obtain ⟨i, hi⟩ := List.getElem?_of_mem he
    obtain ⟨j, hj⟩ := List.getElem?_of_mem hf
    have ht : e.t = f.t := ht
    have hr : e.r = f.r := hr
    rcases Nat.lt_trichotomy i j with h | h | h
    · have := pw_get.1 hs i j e f h hi hj
      unfold ltN nmOf at this; simp only at this; omega
    · subst h; rw [hi] at hj; exact Option.some.inj hj
    · have := pw_get.1 hs j i f e h hj hi
      unfold ltN nmOf at this; simp only at this; omega
  subst hef
  have hpq : p = q := by
    obtain ⟨i, hi⟩ := List.getElem?_of_mem hp
    obtain ⟨j, hj⟩ := List.getElem?_of_mem hq
    have hx : p.x = q.x := hx
    rcases Nat.lt_trichotomy i j with h | h | h
    · exact absurd hx (pw_get.1 (hv e he) i j p q h hi hj).x
    · subst h; rw [hi] at hj; exact Option.some.inj hj
    · exact absurd hx.symm (pw_get.1 (hv e he) j i q p h hj hi).x
  rw [hpq]
theorem ltL_tri {a b : L4} (h1 : ¬ ltL a b) (h2 : ¬ ltL b a) : a.x = b.x ∧ a.t = b.t ∧ a.r = b.r := by
  unfold ltL ltN at *; simp only at *; omega
section
variable {h h2 : Heap} {tb bw bp bl : Nat} {c : Caps} {vb : Value} {heads N : Nat} {Ts Ts2 : List TB} {W : List IE} {wc : Nat} {F : List Int} {B : List Bool}
theorem TSt.uniq (s : TSt h tb bw bp bl c vb heads N Ts W wc F B) {b b' : TB} {e f : HE} (hb : b ∈ Ts) (hb' : b' ∈ Ts) (he : e ∈ b.M) (hf : f ∈ b'.M) (ht : e.t = f.t) (hr : e.r = f.r) : e = f := by
  obtain ⟨i, hi⟩ := List.getElem?_of_mem hb
  obtain ⟨j, hj⟩ := List.getElem?_of_mem hb'
  have h1 := s.nm i b hi e he
  have h2 := s.nm j b' hj f hf
  rw [ht, hr, h2] at h1
  have : j = i := by omega
  subst this
  rw [hi] at hj; cases hj
  exact (s.is.bk b hb).ok.uniq he hf ht hr
/-- the same heads, but for how many began to wait -/
structure Alike (Ts Ts2 : List TB) : Prop where
  names : (Ts2.flatMap fun b => b.M.map nmOf).Perm (Ts.flatMap fun b => b.M.map nmOf)
  each : ∀ b ∈ Ts2, ∀ x ∈ b.M, ∃ b0 ∈ Ts, ∃ y ∈ b0.M, x.t = y.t ∧ x.r = y.r ∧ x.Q = y.Q
theorem Alike.refl (Ts : List TB) : Alike Ts Ts := ⟨List.Perm.refl _, fun b hb x hx => ⟨b, hb, x, hx, rfl, rfl, rfl⟩⟩
structure NamesOf (Ts : List TB) (K : List HE) : Prop where
  perm : (K.map nmOf).Perm (Ts.flatMap fun b => b.M.map nmOf)
  srt : (K.map nmOf).Pairwise ltN
  each : ∀ k ∈ K, ∃ b ∈ Ts, ∃ e ∈ b.M, SameH k e
theorem TTold.of {v : Value} {K : List HE} (t : TTold h Ts v K) : NamesOf Ts K := ⟨t.perm, t.srt, fun k hk => (t.each k hk).1⟩
theorem ATold.of {v : Value} {D : List L4} {K : List HE} (t : ATold h Ts v D K) : NamesOf Ts K := ⟨t.names, t.srtK, t.each⟩
theorem told_names (al : Alike Ts Ts2) {K K2 : List HE} (t : NamesOf Ts K) (t2 : NamesOf Ts2 K2) : K2.map nmOf = K.map nmOf :=
  sorted_eq (t2.perm.trans (al.names.trans t.perm.symm)) t2.srt t.srt
theorem told_q (s : TSt h tb bw bp bl c vb heads N Ts W wc F B) (al : Alike Ts Ts2) {K K2 : List HE} (t : NamesOf Ts K) (t2 : NamesOf Ts2 K2) {i : Nat} {a b : HE} (ha : K[i]? = some a) (hb : K2[i]? = some b) : b.t = a.t ∧ b.r = a.r ∧ b.Q = a.Q := by
  have e := told_names al t t2
  have e1 : (K2.map nmOf)[i]? = (K.map nmOf)[i]? := by rw [e]
  rw [List.getElem?_map, List.getElem?_map, ha, hb] at e1
  have e2 : nmOf b = nmOf a := Option.some.inj e1
  have et : b.t = a.t := congrArg Prod.fst e2
  have er : b.r = a.r := congrArg Prod.snd e2
  obtain ⟨bx, hbx, x, hx, sx⟩ := t.each a (List.mem_of_getElem? ha)
  obtain ⟨bz, hbz, z, hz, sz⟩ := t2.each b (List.mem_of_getElem? hb)
  obtain ⟨by', hby, y, hy, y1, y2, y3⟩ := al.each bz hbz z hz
  have := s.uniq hbx hby hx hy (by rw [← sx.1, ← et, sz.1, y1]) (by rw [← sx.2.1, ← er, sz.2.1, y2])
  subst this
  exact ⟨et, er, by rw [sz.2.2.2, y3, sx.2.2.2]⟩
theorem told_same (s : TSt h tb bw bp bl c vb heads N Ts W wc F B) {K K2 : List HE} (t : NamesOf Ts K) (t2 : NamesOf Ts K2) {i : Nat} {a b : HE} (ha : K[i]? = some a) (hb : K2[i]? = some b) : SameH a b := by
  obtain ⟨e1, e2, e3⟩ := told_q s (Alike.refl Ts) t t2 ha hb
  obtain ⟨bx, hbx, x, hx, sx⟩ := t.each a (List.mem_of_getElem? ha)
  obtain ⟨bz, hbz, z, hz, sz⟩ := t2.each b (List.mem_of_getElem? hb)
  have := s.uniq hbx hbz hx hz (by rw [← sx.1, ← e1, sz.1]) (by rw [← sx.2.1, ← e2, sz.2.1])
  subst this
  exact ⟨e1.symm, e2.symm, sx.2.2.1.trans sz.2.2.1.symm, e3.symm⟩
theorem told_held (s : TSt h tb bw bp bl c vb heads N Ts W wc F B) (al : Alike Ts Ts2) {K K2 : List HE} (t : NamesOf Ts K) (t2 : NamesOf Ts2 K2) : K2.flatMap heldE = K.flatMap heldE := by
  have hl : K2.length = K.length := by
    have := congrArg List.length (told_names al t t2)
    simpa using this
  rw [List.flatMap_def, List.flatMap_def]
  congr 1
  refine List.ext_getElem? fun i => ?_
  rw [List.getElem?_map, List.getElem?_map]
  by_cases hi : i < K.length
  · have ha := List.getElem?_eq_getElem hi
    have hb := List.getElem?_eq_getElem (l := K2) (show i < K2.length by omega)
    obtain ⟨e1, e2, e3⟩ := told_q s al t t2 ha hb
    rw [ha, hb]
    unfold heldE
    simp only [Option.map_some]
    rw [e1, e2, e3]
  · rw [List.getElem?_eq_none (by omega), List.getElem?_eq_none (by omega)]
theorem NamesOf.pair (s : TSt h tb bw bp bl c vb heads N Ts W wc F B) {K : List HE} (t : NamesOf Ts K) : ∀ k ∈ K, k.Q.Pairwise Beside := by
  intro k hk
  obtain ⟨b, hb, e, he, se⟩ := t.each k hk
  rw [se.2.2.2]
  exact ((s.is.bk b hb).good e he).vq.pair
theorem told_all {v v2 : Value} {D D2 : List L4} {K K2 : List HE} {h3 : Heap} (s : TSt h tb bw bp bl c vb heads N Ts W wc F B) (al : Alike Ts Ts2) (t : ATold h2 Ts v D K) (t2 : ATold h3 Ts2 v2 D2 K2) : D2 = D := by
  have e := told_held s al t.of t2.of
  have hp : D2.Perm D := t2.perm.trans (e ▸ t.perm.symm)
  refine perm_sorted hp t2.srt t.srt fun a ha b hb h1 h2 => ?_
  obtain ⟨k1, k2, k3⟩ := ltL_tri h2 h1
  exact held_key t.srtK (t.of.pair s) (t.perm.mem_iff.1 (hp.mem_iff.1 ha)) (t.perm.mem_iff.1 (hp.mem_iff.1 hb)) k1 k2 k3
end
end Go.Proofs

namespace Go.Proofs
open Go.Vai Go.Clashes
theorem livesT_a : answersS Tryz.prog 2000 8 [] (.bool true) = true := by kernel_rfl
theorem eqLk (h : Heap) (a b c d a' b' c' d' : Int) : eqB Tryz.prog h 100 57 (.agg ⟨[.int .i64 a, .int .i64 b, .int .i64 c, .int .i64 d]⟩) (.agg ⟨[.int .i64 a', .int .i64 b', .int .i64 c', .int .i64 d']⟩) =
    (match (some (ieqB a a')) with | some true => (match (match (some (ieqB b b')) with | some true => (match (some (ieqB c c')) with | some true => some true | r => r) | r => r) with | some true => (match (some (ieqB d d')) with | some true => some true | r => r) | r => r) | r => r) := by kernel_rfl
theorem bin_neL {β : Type} {fl : β} (cn : Bool) (a b c d : Int) (h : Heap) (κ : Value → Heap → β) : binB fl Tryz.prog .neq 57 cn false (.agg ⟨[.int .i64 a, .int .i64 b, .int .i64 c, .int .i64 d]⟩) (.agg ⟨[.int .i64 a, .int .i64 b, .int .i64 c, .int .i64 d]⟩) h κ = κ (.bool false) h := by
  have : eqB Tryz.prog h 100 57 (.agg ⟨[.int .i64 a, .int .i64 b, .int .i64 c, .int .i64 d]⟩) (.agg ⟨[.int .i64 a, .int .i64 b, .int .i64 c, .int .i64 d]⟩) = some true := by
    rw [eqLk]; simp only [ieqB_eq, decide_true]
  simp only [binB, this, fbK_eq, Bool.not_true]
theorem ldL {h : Heap} {v : Value} {L : List L4} (hs : Sl encL h v L) (i : Nat) {p : L4} (hp : L[i]? = some p) :
    ∃ b o, b < h.nx ∧ (∀ (β : Type) (fl : β) (h' : Heap) (κ : Value → Heap → β), indexAddrS fl 4 v (.int .i64 (i : Int)) h' κ = κ (.pointer (some ⟨b, o, none⟩)) h') ∧
      ((∀ (β : Type) (fl : β) (κ : List Value → β), ldA fl (h.bl.get b) o 4 κ = κ (encL p)) ∧
      (∀ (β : Type) (fl : β) (κ : Value → β), ldO fl (h.bl.get b) o κ = κ (.int .i64 p.x)) ∧
      (∀ (β : Type) (fl : β) (κ : List Value → β), ldA fl (h.bl.get b) (o + 1) 2 κ = κ [.int .i64 p.t, .int .i64 p.r]) ∧
      (∀ (β : Type) (fl : β) (κ : Value → β), ldO fl (h.bl.get b) (o + 3) κ = κ (.int .i64 p.m))) := by
  obtain ⟨b, o, h1, h2, h3, hh⟩ := hs.ld encL_len i hp
  refine ⟨b, o, h1, h2, fun β fl κ => ldA_has hh 4 κ rfl, fun β fl κ => ldO_has (fl := fl) hh 0 κ (by show 0 < 4; omega), fun β fl κ => ?_, fun β fl κ => ldO_has (fl := fl) hh 3 κ (by show 3 < 4; omega)⟩
  have := hh.sub 1 2 (by show 1 + 2 ≤ 4; omega)
  exact ldA_has this 2 κ rfl
theorem sameL_w (L : List L4) (v1 v2 : Value) (h : Heap) (κ : Value → Heap → Prop) (h1 : Sl encL h v1 L) (h2 : Sl encL h v2 L) (hl : L.length ≤ 1000000) (hk : κ (.bool true) h) : CallW Tryz.prog 19 [v1, v2] h κ := by
  obtain ⟨x1, c1, e1, _⟩ := (show Sl encL h v1 L from h1)
  obtain ⟨x2, c2, e2, _⟩ := (show Sl encL h v2 L from h2)
  refine callW_of mixed ?_
  rw [rs_19]
  rw [e1, e2]
  simp (disch := first | omega | (simp only [Wx]; done) | (simp only [Wy]; done) | (simp only [Wv]; omega) | with_unfolding_all rfl) only [Wz, ptrTo, sliceTo]
  refine ⟨fun m l h' => ∃ i : Nat, slot l 16 = .int .i64 (i : Int) ∧ m = L.length - i ∧ i ≤ L.length ∧ HQ h h', ⟨_, 0, rfl, rfl, by omega, rfl⟩, ?_⟩
  rintro m l h' ⟨i, s1, rfl, hi, hq⟩
  cases (show h = h' from hq)
  by_cases hlt : i < L.length
  · obtain ⟨p, hp⟩ : ∃ p, L[i]? = some p := ⟨_, List.getElem?_eq_getElem hlt⟩
    obtain ⟨b1, o1, _, hx1, hr1, _⟩ := ldL h1 i hp
    obtain ⟨b2, o2, _, hx2, hr2, _⟩ := ldL h2 i hp
    rw [e1] at hx1
    rw [e2] at hx2
    simp (disch := first | omega | (simp only [Wx]; done) | (simp only [Wy]; done) | (simp only [Wv]; omega) | with_unfolding_all rfl) only [Wz, ptrTo, sliceTo, s1, lt_t (show (i : Int) < (L.length : Int) by omega), rs_19_0, hx1, hr1, hx2, hr2, encL, bin_neL]
    exact ⟨_, by omega, i + 1, rfl, rfl, by omega, rfl⟩
  · simp (disch := first | omega | (simp only [Wx]; done) | (simp only [Wy]; done) | (simp only [Wv]; omega) | with_unfolding_all rfl) only [Wz, ptrTo, sliceTo, s1, lt_f (show (L.length : Int) ≤ (i : Int) by omega)]
    exact hk
/-! ## asked, and left at once -/
section
variable {h h' : Heap} {bb bm bp bl most : Nat} {M M' : List HE} {clock clock' : Nat} {F F' : List Int} {B : List Bool}
theorem asked_set (s : BucketIs h bb bm bp bl most M clock F B) {t r x m : Int} {n : Nat} {g : Bool} (am : askedM m = true) (a : Asked h h' bb bm bp bl most M M' clock' F F' B t r x m n g) :
    ∃ Q w e1 p, ((∃ e ∈ M, e.t = t ∧ e.r = r ∧ e.Q = Q) ∨ ((∀ e ∈ M, ¬ (t = e.t ∧ r = e.r)) ∧ Q = [])) ∧ e1 ∈ M' ∧ e1.t = t ∧ e1.r = r ∧ e1.w = w ∧ e1.Q = Q ++ [p] ∧ p.id = (n : Int) ∧ M'.Perm (M.filter (fun x => !isN t r x) ++ [e1]) ∧ stuckQ Q ∧ (∀ q ∈ Q, q.id ≠ (n : Int)) := by
  obtain ⟨Q, w, hold, vq, vq', hg, hset⟩ := a.set
  have hst : stuckQ Q := by
    rcases hold with ⟨e, he, _, _, rfl, _⟩ | ⟨_, _, rfl, _⟩
    · exact (s.good e he).stuck
    · intro i r hf hr; simp at hr
  rw [scan_end (ask_stuck vq hst am)] at hset
  obtain ⟨e, h1, h2, h3, h4, hp⟩ := hset.put (by simp)
  refine ⟨Q, _, e, _, ?_, hp.mem_iff.2 (List.mem_append.2 (.inr (.head _))), h1, h2, h3, h4, askR_id _ _ _ _ _, hp, hst, fun q hq => ?_⟩
  · rcases hold with ⟨e, he, k1, k2, k3, _⟩ | ⟨k1, _, k2, _⟩
    · exact .inl ⟨e, he, k1, k2, k3⟩
    · exact .inr ⟨k1, k2⟩
  · have := List.pairwise_append.1 vq'.pair
    have := (this.2.2 q hq _ (.head _)).id
    rwa [askR_id] at this
end
section
variable {h : Heap} {tb bw bp bl : Nat} {c : Caps} {vb : Value} {heads N : Nat} {Ts : List TB} {W : List IE} {wc : Nat} {F : List Int} {B : List Bool}
theorem TSt.idUniq (s : TSt h tb bw bp bl c vb heads N Ts W wc F B) {k k' : Nat} {b b' : TB} {e e' : HE} {p p' : R5} (hk : Ts[k]? = some b) (hk' : Ts[k']? = some b') (he : e ∈ b.M) (he' : e' ∈ b'.M) (hp : p ∈ e.Q) (hp' : p' ∈ e'.Q) (hid : p.id = p'.id) : k = k' ∧ b = b' ∧ e = e' := by
  have h1 := s.wh k b hk e he p hp
  have h2 := s.wh k' b' hk' e' he' p' hp'
  rw [hid, h2] at h1
  have : k = k' := by have := Option.some.inj h1; omega
  subst this
  rw [hk] at hk'; cases hk'
  refine ⟨rfl, rfl, ?_⟩
  have hnd : ((Ts.flatMap fun b => idsM b.M)).Nodup := (s.ids.nodup_iff).2 (lent_nodup B)
  obtain ⟨X, hX⟩ := flat_split (fun b : TB => idsM b.M) hk
  have h0 := hX b
  rw [set_self hk] at h0
  have hnd2 : (idsM b.M ++ X).Nodup := (h0.nodup_iff).1 hnd
  have hnd3 := (List.nodup_append.1 hnd2).1
  unfold idsM at hnd3
  rw [List.Nodup, List.pairwise_flatMap] at hnd3
  obtain ⟨i, hi⟩ := List.getElem?_of_mem he
  obtain ⟨j, hj⟩ := List.getElem?_of_mem he'
  rcases Nat.lt_trichotomy i j with h | h | h
  · exact absurd hid (pw_get.1 hnd3.2 i j e e' h hi hj _ (List.mem_map.2 ⟨p, hp, rfl⟩) _ (List.mem_map.2 ⟨p', hp', rfl⟩))
  · subst h; rw [hi] at hj; exact Option.some.inj hj
  · exact absurd hid.symm (pw_get.1 hnd3.2 j i e' e h hj hi _ (List.mem_map.2 ⟨p', hp', rfl⟩) _ (List.mem_map.2 ⟨p, hp, rfl⟩))
theorem alike_set {k : Nat} {b : TB} (hk : Ts[k]? = some b) {M2 : List HE} {clock2 : Nat} (hn : (M2.map nmOf).Perm (b.M.map nmOf)) (he : ∀ x ∈ M2, ∃ y ∈ b.M, x.t = y.t ∧ x.r = y.r ∧ x.Q = y.Q) : Alike Ts (Ts.set k ⟨b.bb, b.bm, M2, clock2⟩) := by
  constructor
  · obtain ⟨X, hX⟩ := flat_split (fun b : TB => b.M.map nmOf) hk
    have h0 := hX b
    rw [set_self hk] at h0
    exact (hX ⟨b.bb, b.bm, M2, clock2⟩).trans ((hn.append_right X).trans h0.symm)
  · intro y hy x hx
    obtain ⟨j, hj⟩ := List.getElem?_of_mem hy
    rcases set_cases hj with ⟨rfl, rfl⟩ | ⟨_, hj⟩
    · obtain ⟨z, hz, h⟩ := he x hx
      exact ⟨b, List.mem_of_getElem? hk, z, hz, h⟩
    · exact ⟨y, List.mem_of_getElem? hj, x, hx, rfl, rfl, rfl⟩
/-- who is asked for, and leaves at once, leaves all as it was -/
theorem asked_left {bb bm most : Nat} {M M' M2 : List HE} {clock : Nat} {Fa : List Int} {Ba : List Bool} {h1 : Heap} (s : BucketIs h1 bb bm bp bl most M clock Fa Ba) {t r w : Int} {Q : List R5} {e1 : HE} (hold : (∃ e ∈ M, e.t = t ∧ e.r = r ∧ e.Q = Q) ∨ ((∀ e ∈ M, ¬ (t = e.t ∧ r = e.r)) ∧ Q = []))
    (h1t : e1.t = t) (h1r : e1.r = r) (hp : M'.Perm (M.filter (fun x => !isN t r x) ++ [e1])) (hset : Settled M' M2 e1.t e1.r w Q) : (M2.map nmOf).Perm (M.map nmOf) ∧ ∀ x ∈ M2, ∃ y ∈ M, x.t = y.t ∧ x.r = y.r ∧ x.Q = y.Q := by
  rw [h1t, h1r] at hset
  have hfil : (M'.filter fun x => !isN t r x).Perm (M.filter fun x => !isN t r x) := by
    refine (hp.filter _).trans ?_
    rw [List.filter_append, List.filter_filter]
    have e0 : [e1].filter (fun x => !isN t r x) = [] := by
      rw [List.filter_cons_of_neg]; rfl
      rw [isN_f]; exact fun h => h ⟨h1t.symm, h1r.symm⟩
    rw [e0, List.append_nil]
    refine List.Perm.of_eq (List.filter_congr fun x _ => by simp)
  rcases hold with ⟨e, he, ht, hr, hQ⟩ | ⟨hno, hQ⟩
  · have hne : Q ≠ [] := by rw [← hQ]; exact (s.good e he).ne
    obtain ⟨e2, k1, k2, _, k4, hp2⟩ := hset.put hne
    have hsp := split_has s.ok he
    rw [ht, hr] at hsp
    have hM2 : M2.Perm (M.filter (fun x => !isN t r x) ++ [e2]) := hp2.trans (hfil.append_right _)
    constructor
    · refine (hM2.map nmOf).trans ?_
      have := hsp.map nmOf
      rw [List.map_append] at this ⊢
      rw [show [e2].map nmOf = [e].map nmOf by simp [nmOf, k1, k2, ht, hr]]
      exact this.symm
    · intro x hx
      rcases List.mem_append.1 (hM2.mem_iff.1 hx) with h | h
      · exact ⟨x, (List.mem_filter.1 h).1, rfl, rfl, rfl⟩
      · rw [List.mem_singleton] at h; subst h
        exact ⟨e, he, by rw [k1, ht], by rw [k2, hr], by rw [k4, hQ]⟩
  · have hM2 : M2.Perm M := by
      rw [hset.gone hQ]
      refine hfil.trans ?_
      rw [split_not hno]
    exact ⟨hM2.map nmOf, fun x hx => ⟨x, hM2.mem_iff.1 hx, rfl, rfl, rfl⟩⟩
end
end Go.Proofs

namespace Go.Proofs
open Go.Vai Go.Clashes
theorem noNewT {h : Heap} (hno : ∀ c vs t, h.bl.get c ≠ some (cellsO vs t true)) (vs : List Value) (t : TypeId) (n : Nat) : ∀ c ws t', (h.bl.upd n (cellsO vs t false)).get c ≠ some (cellsO ws t' true) := by
  intro c ws t'
  by_cases hc : n = c
  · subst hc
    rw [T.get_upd_same]; exact cells_op
  · rw [T.get_updne _ _ hc]; exact hno c ws t'
theorem FrT.toLe {Ts : List TB} {bw bp bl : Nat} {h h' : Heap} (f : FrT Ts bw bp bl h h') (hno : ∀ c vs t, h.bl.get c ≠ some (cellsO vs t true)) (hm : ∀ b ∈ Ts, h.nx ≤ b.bm) (hw : h.nx ≤ bw) (hp : h.nx ≤ bp) (hl : h.nx ≤ bl) : Le h h' :=
  ⟨f.nx, f.lo, fun c hc => f.get c hc (fun b hb => by have := hm b hb; omega) (by omega) (by omega) (by omega) fun vs => hno c vs _⟩
theorem eqT0k (h : Heap) : eqB Tryz.prog h 100 30 (.pointer none) (.pointer none) = some true := by kernel_rfl
theorem bin_eqT0 {β : Type} {fl : β} (cn : Bool) (h : Heap) (κ : Value → Heap → β) : binB fl Tryz.prog .eql 30 cn false (.pointer none) (.pointer none) h κ = κ (.bool true) h := by simp only [binB, eqT0k, fbK_eq]
section
variable {h : Heap} {tb bw bp bl : Nat} {c : Caps} {vb : Value} {heads N : Nat} {Ts : List TB} {W : List IE} {wc : Nat} {F : List Int} {B : List Bool}
theorem TSt.headsLen (s : TSt h tb bw bp bl c vb heads N Ts W wc F B) {K : List HE} (t : NamesOf Ts K) : K.length ≤ 1024 := by
  have h1 := t.perm.length_eq
  rw [List.length_map] at h1
  rw [h1]
  have h2 := s.is.s1.2
  have h3 := s.is.hd
  have : ∀ L : List TB, (∀ b ∈ L, b.M.length ≤ 64) → (L.flatMap fun b => b.M.map nmOf).length ≤ 64 * L.length := by
    intro L
    induction L with
    | nil => intro _; simp
    | cons b L ih =>
      intro hL
      rw [List.flatMap_cons, List.length_append, List.length_map, List.length_cons]
      have h1 := ih fun x hx => hL x (.tail _ hx)
      have h2 := hL b (.head _)
      omega
  have := this Ts fun b hb => by have := s.len b hb; omega
  omega
theorem TSt.queueLen (s : TSt h tb bw bp bl c vb heads N Ts W wc F B) {K : List HE} (t : NamesOf Ts K) : ∀ k ∈ K, k.Q.length ≤ 128 := by
  intro k hk
  obtain ⟨b, hb, e, he, se⟩ := t.each k hk
  rw [se.2.2.2]; exact ((s.is.bk b hb).good e he).small
theorem TSt.heldLen (s : TSt h tb bw bp bl c vb heads N Ts W wc F B) {v : Value} {D : List L4} {K : List HE} {h' : Heap} (t : ATold h' Ts v D K) : D.length ≤ 131072 := by
  have h1 := held_bound (s.queueLen t.of)
  have h2 := s.headsLen t.of
  rw [t.perm.length_eq]
  omega
theorem sameTold_w (s : TSt h tb bw bp bl c vb heads N Ts W wc F B) {h0 : Heap} {v v' : Value} {K K' : List HE} (t : TTold h0 Ts v K) (t' : TTold h0 Ts v' K') (κ : Value → Heap → Prop) (hk : κ (.bool true) h0) :
    CallW Tryz.prog 20 [v, v'] h0 κ := by
  have hl := s.headsLen t.of
  have hll : K'.length = K.length := by
    have := congrArg List.length (told_names (Alike.refl Ts) t.of t'.of)
    simpa using this
  refine sameH_w K K' v v' h0 _ t.sl t'.sl (by omega) hll (fun i a b ha hb => ?_) hk
  have qa := (t.each a (List.mem_of_getElem? ha)).2
  have qb := (t'.each b (List.mem_of_getElem? hb)).2
  exact ⟨told_same s t.of t'.of ha hb, qa.1, qb.1, by have := s.queueLen t.of a (List.mem_of_getElem? ha); omega⟩
/-- what is rejected leaves everything as it was -/
theorem roomErr_w (s : TSt h tb bw bp bl c vb heads N Ts W wc F B) (hlo : h.lo ≤ h.nx) {v1 v2 : Value} {K K2 : List HE} {D : List L4} (t : TTold h Ts v1 K) (ta : ATold h Ts v2 D K2) (κ : Value → Heap → Prop) (hk : ∀ h', κ (.bool true) h') :
    rs_4_3 (.pointer (some ⟨tb, 0, none⟩)) v1 v2 h κ := by
  unfold rs_4_3
  refine tSnap_w s hlo _ ?_
  intro v3 h3 K3 t3 le3
  have n3 := le3.nx
  have l3 := le3.lo
  refine sameTold_w (s.le le3) t3 (t.le le3) _ ?_
  simp (disch := first | omega | (simp only [Wx]; done) | (simp only [Wy]; done) | (simp only [Wv]; omega) | with_unfolding_all rfl) only [Wz, ptrTo, sliceTo]
  refine tAll_w (s.le le3) (by omega) _ ?_
  intro v4 h4 D4 K4 ta4 le4
  have e : D4 = D := told_all s (Alike.refl Ts) ta ta4
  subst e
  have ta' := (ta.le le3).le le4
  refine sameL_w D4 v4 v2 h4 _ ta4.sl ta'.sl (by have := s.heldLen ta; omega) ?_
  exact hk h4
theorem filter_asked {Q : List R5} {p : R5} {n : Int} (hp : p.id = n) (hn : ∀ q ∈ Q, q.id ≠ n) : (Q ++ [p]).filter (fun r => !placeR n r) = Q := by
  rw [List.filter_append, List.filter_eq_self.2 fun q hq => by simp [placeR, hn q hq]]
  rw [List.filter_cons_of_neg (by simp [placeR, hp])]
  simp
theorem roomOk_w {h h0 h1 h' : Heap} {N : Nat} (s : TSt h tb bw bp bl c vb heads N Ts W wc F B) {k : Nat} {b : TB} (hkb : Ts[k]? = some b) {M' : List HE} {clock' : Nat} {F' : List Int} {W' : List IE} {wc' : Nat} {t r x m : Int} {n : Nat} {g : Bool} (am : askedM m = true)
    (isb : BucketIs h0 b.bb b.bm bp bl heads b.M b.clock F B) (ak : Asked h0 h1 b.bb b.bm bp bl heads b.M M' clock' F F' B t r x m n g) (s' : TSt h' tb bw bp bl c vb heads (N + 1) (Ts.set k ⟨b.bb, b.bm, M', clock'⟩) W' wc' F' (B.set n true)) (hlo : h'.lo ≤ h'.nx)
    {v1 v2 : Value} {K K2 : List HE} {D : List L4} (tt : TTold h' Ts v1 K) (ta : ATold h' Ts v2 D K2) (κ : Value → Heap → Prop) (hk : ∀ h', κ (.bool true) h') :
    rs_4_2 (.pointer (some ⟨tb, 0, none⟩)) (.int .i64 (n : Int)) v1 v2 h' κ := by
  unfold rs_4_2
  obtain ⟨Q, w, e1, p, hold, he1, h1t, h1r, h1w, h1Q, hpid, hp, hst, hnid⟩ := asked_set isb am ak
  have hkl := (List.getElem?_eq_some_iff.1 hkb).1
  have hk' : (Ts.set k ⟨b.bb, b.bm, M', clock'⟩)[k]? = some ⟨b.bb, b.bm, M', clock'⟩ := by rw [List.getElem?_set, if_pos rfl, if_pos hkl]
  have hpm : p ∈ e1.Q := by rw [h1Q]; simp
  have hf1 : findQ e1.Q (n : Int) = some p := by
    have := findQ_mem ((s'.is.bk _ (List.mem_of_getElem? hk')).good e1 he1).vq.pair hpm
    rwa [hpid] at this
  refine tLeave_w s' hlo (n : Int) _ ?_ ?_
  · intro hno
    have := hno _ (List.mem_of_getElem? hk') e1 he1
    rw [hf1] at this; cases this
  intro k2 b2 h2 M2 clock2 F2 vi e2 p2 n2 hk2 he2 hf2 hid hbn hpF mv ho s2
  have hn2 : n2 = n := (Int.ofNat.inj hid).symm
  subst hn2
  obtain ⟨e_k, e_b, e_e⟩ := s'.idUniq hk2 hk' he2 he1 (findQ_some hf2).1 hpm (by rw [(findQ_some hf2).2, hpid])
  subst e_k e_b e_e
  have hset := mv.set
  have hsc : (scanQ (cntW (e2.Q.filter fun r => !placeR (n2 : Int) r) + 1) (e2.Q.filter fun r => !placeR (n2 : Int) r)) = (Q, []) := by
    rw [h1Q, filter_asked hpid hnid]; exact scan_end hst
  rw [hsc] at hset ho
  obtain ⟨hnm, heach⟩ := asked_left isb hold h1t h1r hp hset
  have al0 := alike_set (clock2 := clock2) hkb hnm heach
  have eTs : (Ts.set k2 ⟨b.bb, b.bm, M', clock'⟩).set k2 ⟨b.bb, b.bm, M2, clock2⟩ = Ts.set k2 ⟨b.bb, b.bm, M2, clock2⟩ := List.set_set ..
  have s2 : TSt h2 tb bw bp bl c vb heads (N + 1 + 1) (Ts.set k2 ⟨b.bb, b.bm, M2, clock2⟩) W' wc' F2 ((B.set n2 true).set n2 false) := by rw [← eTs]; exact s2
  have fr2 : FrT (Ts.set k2 ⟨b.bb, b.bm, M', clock'⟩) bw bp bl h' h2 := FrT.of_Q (List.mem_of_getElem? hk2) mv.fr
  have tt2 := tt.keep s'.is fr2
  have ta2 := ta.keep s'.is fr2
  have n2' := fr2.nx
  have l2 := fr2.lo
  obtain ⟨vx, vc, rfl, _⟩ := id ho.sl
  simp (disch := first | omega | (simp only [Wx]; done) | (simp only [Wy]; done) | (simp only [Wv]; omega) | with_unfolding_all rfl) only [Wz, ptrTo, sliceTo]
  refine tSnap_w s2 (by omega) _ ?_
  intro v3 h3 K3 t3 le3
  have n3 := le3.nx
  have l3 := le3.lo
  have tt3 := tt2.le le3
  have hlK : K3.length = K.length := by
    have := congrArg List.length (told_names al0 tt.of t3.of)
    simpa using this
  have hKl := s.headsLen tt.of
  obtain ⟨x3, c3, ev3, _⟩ := (show Sl encH h3 v3 K3 from t3.sl)
  obtain ⟨x1, c1, ev1, _⟩ := (show Sl encH h3 v1 K from tt3.sl)
  have hlen3 : ∀ (β : Type) (fl : β) (h' : Heap) (κ : Value → Heap → β), lenSli fl v3 h' κ = κ (.int .i64 (K.length : Int)) h' := fun β fl h' κ => by rw [ev3, ← hlK]; exact lenSli_eq _ _ _ _ _
  have hlen1 : ∀ (β : Type) (fl : β) (h' : Heap) (κ : Value → Heap → β), lenSli fl v1 h' κ = κ (.int .i64 (K.length : Int)) h' := fun β fl h' κ => by rw [ev1]; exact lenSli_eq _ _ _ _ _
  simp (disch := first | omega | (simp only [Wx]; done) | (simp only [Wy]; done) | (simp only [Wv]; omega) | with_unfolding_all rfl) only [Wz, ptrTo, sliceTo, hlen3, hlen1, List.length_nil, lt_f (show ((0 : Nat) : Int) ≤ 0 by decide), dec_t (show (K.length : Int) = (K.length : Int) from rfl)]
  refine ⟨fun m l h4 => ∃ i : Nat, slot l 32 = .int .i64 (i : Int) ∧ m = K.length - i ∧ i ≤ K.length ∧ HQ h3 h4, ⟨_, 0, rfl, rfl, by omega, rfl⟩, ?_⟩
  rintro mm l h4 ⟨i, s1, rfl, hi, hq⟩
  cases (show h3 = h4 from hq)
  by_cases hlt : i < K.length
  · obtain ⟨a, ha⟩ : ∃ a, K[i]? = some a := ⟨_, List.getElem?_eq_getElem hlt⟩
    obtain ⟨d, hd⟩ : ∃ d, K3[i]? = some d := ⟨_, List.getElem?_eq_getElem (by omega)⟩
    obtain ⟨q1, q2, q3⟩ := told_q s al0 tt.of t3.of ha hd
    have qa := (tt3.each a (List.mem_of_getElem? ha)).2
    have qd := (t3.each d (List.mem_of_getElem? hd)).2
    obtain ⟨ba, oa, _, hxa, hra⟩ := ldHs tt3.sl i ha (slV_sl qa.1)
    obtain ⟨bd, od, _, hxd, hrd⟩ := ldHs t3.sl i hd (slV_sl qd.1)
    have Ra := hra h3 (Le.refl _)
    have Rd := hrd h3 (Le.refl _)
    rw [q1, q2] at Rd
    have hqa := s.queueLen tt.of a (List.mem_of_getElem? ha)
    simp (disch := first | omega | (simp only [Wx]; done) | (simp only [Wy]; done) | (simp only [Wv]; omega) | with_unfolding_all rfl) only [Wz, ptrTo, sliceTo, rs_4_1, s1, hlen3, lt_t (show (i : Int) < (K.length : Int) by omega), rs_4_0, hxd, Rd, hxa, Ra, bin_neNs]
    refine sameR_w a.Q d.q a.q h3 _ (by rw [← q3]; exact qd.1) qa.1 (by omega) ?_
    simp (disch := first | omega | (simp only [Wx]; done) | (simp only [Wy]; done) | (simp only [Wv]; omega) | with_unfolding_all rfl) only [Wz, ptrTo, sliceTo, s1]
    exact ⟨_, by omega, i + 1, rfl, rfl, by omega, rfl⟩
  · simp (disch := first | omega | (simp only [Wx]; done) | (simp only [Wy]; done) | (simp only [Wv]; omega) | with_unfolding_all rfl) only [Wz, ptrTo, sliceTo, rs_4_1, s1, hlen3, lt_f (show (K.length : Int) ≤ (i : Int) by omega)]
    refine tAll_w (s2.le le3) (by omega) _ ?_
    intro v5 h5 D5 K5 ta5 le5
    have e : D5 = D := told_all s al0 ta ta5
    subst e
    have ta6 := (ta2.le le3).le le5
    refine sameL_w D5 v5 v2 h5 _ ta5.sl ta6.sl (by have := s.heldLen ta; omega) ?_
    exact hk h5
end
end Go.Proofs
