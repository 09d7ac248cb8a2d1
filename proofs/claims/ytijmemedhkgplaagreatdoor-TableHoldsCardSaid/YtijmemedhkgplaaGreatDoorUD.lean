/-
  PROVED HERE: a part of the proof, by a calculus of weakest conditions over an abstract heap (U18, U19, U20, U21).
-/
import Derived.Test.YtijmemedhkgplaaGreatDoorUC
set_option linter.unusedVariables false
set_option linter.unusedSimpArgs false
set_option maxRecDepth 100000
set_option maxHeartbeats 4000000
set_option maxHeartbeats 8000000
namespace Go.Proofs
open Go.Vai Go.Clashes
/-! ## the parts of TableHolds -/
theorem rCompareN_w (t r t' r' : Int) (h : Heap) (κ : Value → Heap → Prop) (hlt : ltN (t, r) (t', r')) (hk : ∀ h', Le h h' → κ (.int .i64 (-1)) h') :
    CallW Tryz.prog 23 [nmV t r, nmV t' r'] h κ := by
  unfold ltN at hlt
  simp only at hlt
  refine callW_of mixed ?_
  rw [rs_23]
  by_cases h1 : t < t'
  · simp (disch := first | omega | (simp only [Wx]; done) | (simp only [Wy]; done) | (simp only [Wv]; omega) | with_unfolding_all rfl) only [Wz, ptrTo, sliceTo, nmV, lt_t h1]
    exact hk _ (((Le.refl h).new _).new _)
  · have h2 : t = t' ∧ r < r' := by omega
    simp (disch := first | omega | (simp only [Wx]; done) | (simp only [Wy]; done) | (simp only [Wv]; omega) | with_unfolding_all rfl) only [Wz, ptrTo, sliceTo, nmV, lt_f (show t' ≤ t by omega), dec_t h2.1, lt_t h2.2]
    exact hk _ (((Le.refl h).new _).new _)
/-- how many of these heads stand in stripe k -/
def cntS (S : Int) (L : List (Int × Int)) (k : Nat) : Nat := L.countP fun n => decide (strN n.1 n.2 S = (k : Int))
def manyL (S : Int) (n : Nat) (L : List (Int × Int)) : List Int := (List.range n).map fun k => (cntS S L k : Int)
theorem manyL_len (S : Int) (n : Nat) (L : List (Int × Int)) : (manyL S n L).length = n := by unfold manyL; simp
theorem manyL_get {S : Int} {n : Nat} {L : List (Int × Int)} {k : Nat} (hk : k < n) : (manyL S n L)[k]? = some (cntS S L k : Int) := by
  unfold manyL
  rw [List.getElem?_map, List.getElem?_range hk]; rfl
theorem manyL_nil (S : Int) (n : Nat) : manyL S n [] = List.replicate n 0 := by
  refine List.ext_getElem? fun i => ?_
  by_cases hi : i < n
  · rw [manyL_get hi, List.getElem?_replicate, if_pos hi]; rfl
  · rw [List.getElem?_eq_none (by rw [manyL_len]; omega), List.getElem?_eq_none (by simp; omega)]
theorem manyL_set {S : Int} {n : Nat} {L : List (Int × Int)} {x : Int × Int} {k : Nat} (hx : strN x.1 x.2 S = (k : Int)) (hk : k < n) : (manyL S n L).set k ((cntS S L k : Int) + 1) = manyL S n (L ++ [x]) := by
  refine List.ext_getElem? fun i => ?_
  by_cases hi : i < n
  · rw [manyL_get hi, List.getElem?_set, manyL_len]
    by_cases hik : k = i
    · subst hik
      rw [if_pos rfl, if_pos hi]
      unfold cntS
      rw [List.countP_append, List.countP_cons_of_pos (by simpa using hx)]
      simp
    · rw [if_neg hik, manyL_get hi]
      unfold cntS
      rw [List.countP_append, List.countP_cons_of_neg (by rw [hx]; simp; omega)]
      simp
  · rw [List.getElem?_eq_none (by rw [List.length_set, manyL_len]; omega), List.getElem?_eq_none (by rw [manyL_len]; omega)]
theorem over_ints {B : List Int} {n : Nat} {b : Int} (h : n < B.length) : over (B.map fun x => Value.int .i64 x) n [.int .i64 b] = (B.set n b).map fun x => Value.int .i64 x := by
  unfold over
  rw [List.set_eq_take_append_cons_drop, if_pos h]
  simp [List.map_take, List.map_drop]
theorem repeat_int (n : Nat) : repeatL [Value.int .i64 0] n = (List.replicate n (0 : Int)).map fun x => Value.int .i64 x := by
  induction n with
  | zero => rfl
  | succ n ih => rw [List.replicate_succ, List.map_cons, ← ih]; rfl
theorem cnt_le {S : Int} {H k : Nat} : ∀ (L : List TB) (off : Nat), (∀ (j : Nat) (b : TB), L[j]? = some b → ∀ e ∈ b.M, strN e.t e.r S = ((off + j : Nat) : Int)) → (∀ b ∈ L, b.M.length ≤ H) → cntS S (L.flatMap fun b => b.M.map nmOf) k ≤ H := by
  intro L
  induction L with
  | nil => intro _ _ _; exact Nat.zero_le _
  | cons b L ih =>
    intro off hs hl
    have hb : ∀ e ∈ b.M, strN e.t e.r S = (off : Int) := fun e he => by have := hs 0 b rfl e he; rwa [Nat.add_zero] at this
    have hL : ∀ (j : Nat) (b : TB), L[j]? = some b → ∀ e ∈ b.M, strN e.t e.r S = ((off + 1 + j : Nat) : Int) := fun j b' hj e he => by
      have := hs (j + 1) b' hj e he
      rw [this]; congr 1; omega
    unfold cntS
    rw [List.flatMap_cons, List.countP_append]
    by_cases hk : off = k
    · have h0 : (L.flatMap fun b => b.M.map nmOf).countP (fun n => decide (strN n.1 n.2 S = (k : Int))) = 0 := by
        rw [List.countP_eq_zero]
        intro n hn
        obtain ⟨b', hb', hn⟩ := List.mem_flatMap.1 hn
        obtain ⟨e, he, rfl⟩ := List.mem_map.1 hn
        obtain ⟨j, hj⟩ := List.getElem?_of_mem hb'
        have := hL j b' hj e he
        show ¬ decide (strN e.t e.r S = (k : Int)) = true
        rw [this]; simp; omega
      have h1 := List.countP_le_length (p := fun n : Int × Int => decide (strN n.1 n.2 S = (k : Int))) (l := b.M.map nmOf)
      rw [List.length_map] at h1
      have := hl b (.head _)
      omega
    · have h0 : (b.M.map nmOf).countP (fun n => decide (strN n.1 n.2 S = (k : Int))) = 0 := by
        rw [List.countP_eq_zero]
        intro n hn
        obtain ⟨e, he, rfl⟩ := List.mem_map.1 hn
        have := hb e he
        show ¬ decide (strN e.t e.r S = (k : Int)) = true
        rw [this]; simp; omega
      have := ih (off + 1) hL fun x hx => hl x (.tail _ hx)
      unfold cntS at this
      omega
section
variable {h : Heap} {tb bw bp bl : Nat} {c : Caps} {vb : Value} {heads N : Nat} {Ts : List TB} {W : List IE} {wc : Nat} {F : List Int} {B : List Bool}
theorem TSt.cnt (s : TSt h tb bw bp bl c vb heads N Ts W wc F B) {K : List HE} (t : NamesOf Ts K) (k : Nat) : cntS c.S (K.map nmOf) k ≤ heads := by
  unfold cntS
  rw [t.perm.countP_eq]
  refine cnt_le Ts 0 (fun j b hj e he => ?_) s.len
  rw [s.nm j b hj e he]; congr 1; omega
theorem TSt.sum (s : TSt h tb bw bp bl c vb heads N Ts W wc F B) {K : List HE} (t : NamesOf Ts K) : sumQ K + F.length = B.length := by
  let M := Ts.flatMap fun b => b.M
  let f : Int × Int → Nat := fun n => ((M.find? fun e => decide (nmOf e = n)).map fun e => e.Q.length).getD 0
  have hM : ∀ e ∈ M, f (nmOf e) = e.Q.length := by
    intro e he
    show ((M.find? fun x => decide (nmOf x = nmOf e)).map fun e => e.Q.length).getD 0 = _
    cases hf : M.find? fun x => decide (nmOf x = nmOf e) with
    | none =>
      rw [List.find?_eq_none] at hf
      have := hf e he
      simp at this
    | some x =>
      have h1 := List.find?_some hf
      have h2 := List.mem_of_find?_eq_some hf
      have h3 : nmOf x = nmOf e := by simpa using h1
      obtain ⟨b1, hb1, hx⟩ := List.mem_flatMap.1 h2
      obtain ⟨b2, hb2, hy⟩ := List.mem_flatMap.1 he
      rw [s.uniq hb1 hb2 hx hy (congrArg Prod.fst h3) (congrArg Prod.snd h3)]; rfl
  have hK : ∀ k ∈ K, f (nmOf k) = k.Q.length := by
    intro k hk
    obtain ⟨b, hb, e, he, se⟩ := t.each k hk
    have : nmOf k = nmOf e := Prod.ext se.1 se.2.1
    rw [this, hM e (List.mem_flatMap.2 ⟨b, hb, he⟩), se.2.2.2]
  have e1 : K.map (fun e => e.Q.length) = (K.map nmOf).map f := by
    rw [List.map_map]; exact List.map_congr_left fun k hk => (hK k hk).symm
  have e2 : M.map (fun e => e.Q.length) = (M.map nmOf).map f := by
    rw [List.map_map]; exact List.map_congr_left fun k hk => (hM k hk).symm
  have e3 : M.map nmOf = Ts.flatMap fun b => b.M.map nmOf := List.map_flatMap
  have e4 : sumQ K = sumQ M := by
    unfold sumQ
    rw [e1, e2, e3]
    exact (t.perm.map f).sum_nat
  have e5 : idsM M = Ts.flatMap fun b => idsM b.M := by
    unfold idsM
    exact List.flatMap_assoc
  have h1 := lent_len s.is.pool.ok
  rw [e4, ← sumQ_ids, e5, s.ids.length_eq]
  exact h1
theorem TSt.vq (s : TSt h tb bw bp bl c vb heads N Ts W wc F B) {K : List HE} (t : NamesOf Ts K) {e : HE} (he : e ∈ K) : VQ e.Q e.w ∧ stuckQ e.Q ∧ e.Q.length ≤ 128 ∧ e.w ≤ N ∧ ∃ k : Nat, strN e.t e.r c.S = (k : Int) ∧ k < Ts.length := by
  obtain ⟨b, hb, f, hf, se⟩ := t.each e he
  have gf := (s.is.bk b hb).good f hf
  have wb := s.wb b hb f hf
  obtain ⟨j, hj⟩ := List.getElem?_of_mem hb
  have := s.nm j b hj f hf
  rw [← se.1, ← se.2.1] at this
  rw [se.2.2.1, se.2.2.2]
  exact ⟨gf.vq, gf.stuck, gf.small, wb, j, this, (List.getElem?_eq_some_iff.1 hj).1⟩
/-- two that hold a name are compatible -/
theorem held_cm {K : List HE} (hs : (K.map nmOf).Pairwise ltN) (hv : ∀ k ∈ K, k.Q.Pairwise Beside) {a b : L4} (ha : a ∈ K.flatMap heldE) (hb : b ∈ K.flatMap heldE) (hne : a ≠ b) (ht : a.t = b.t) (hr : a.r = b.r) : cmp a.m b.m = true := by
  obtain ⟨e, he, ha⟩ := List.mem_flatMap.1 ha
  obtain ⟨f, hf, hb⟩ := List.mem_flatMap.1 hb
  obtain ⟨p, hp, pm, rfl⟩ := heldE_mem ha
  obtain ⟨q, hq, qm, rfl⟩ := heldE_mem hb
  have hef : e = f := by
    rw [List.pairwise_map] at hs
    obtain ⟨i, hi⟩ := List.getElem?_of_mem he
    obtain ⟨j, hj⟩ := List.getElem?_of_mem hf
    have ht : e.t = f.t := ht
    have hr : e.r = f.r := hr
    rcases Nat.lt_trichotomy i j with h | h | h
    · have := pw_get.1 hs i j e f h hi hj
      unfold ltN nmOf at this; simp only at this; omega
    · subst h; rw [hi] at hj; exact Option.some.inj hj
    · have := pw_get.1 hs j i f e h hj hi
      unfold ltN nmOf at this; simp only at this; omega
  subst hef
  show cmp p.m q.m = true
  obtain ⟨i, hi⟩ := List.getElem?_of_mem hp
  obtain ⟨j, hj⟩ := List.getElem?_of_mem hq
  rcases Nat.lt_trichotomy i j with h | h | h
  · exact (pw_get.1 (hv e he) i j p q h hi hj).cm pm qm
  · subst h; rw [hi] at hj; cases hj; exact absurd rfl hne
  · rw [cmp_symm]; exact (pw_get.1 (hv e he) j i q p h hj hi).cm qm pm
theorem held_nodup {K : List HE} (hs : (K.map nmOf).Pairwise ltN) (hv : ∀ k ∈ K, k.Q.Pairwise Beside) : (K.flatMap heldE).Nodup := by
  rw [List.Nodup, List.pairwise_flatMap]
  constructor
  · intro e he
    unfold heldE heldQ
    rw [List.pairwise_map]
    exact ((hv e he).filter _).imp fun hb e => hb.x (congrArg L4.x e)
  · rw [List.pairwise_map] at hs
    refine hs.imp fun {e f} hlt x hx y hy hxy => ?_
    obtain ⟨p, _, _, rfl⟩ := heldE_mem hx
    obtain ⟨q, _, _, rfl⟩ := heldE_mem hy
    have h1 : e.t = f.t := congrArg L4.t hxy
    have h2 : e.r = f.r := congrArg L4.r hxy
    unfold ltN nmOf at hlt; simp only at hlt; omega
/-- all that hold are told in order, each once -/
theorem ATold.lt (s : TSt h tb bw bp bl c vb heads N Ts W wc F B) {h' : Heap} {v : Value} {D : List L4} {K : List HE} (t : ATold h' Ts v D K) {i j : Nat} {a b : L4} (hij : i < j) (ha : D[i]? = some a) (hb : D[j]? = some b) : ltL a b ∧ a ≠ b := by
  have hn := (t.perm.nodup_iff).2 (held_nodup t.srtK (t.of.pair s))
  have hne : a ≠ b := pw_get.1 hn i j a b hij ha hb
  refine ⟨?_, hne⟩
  by_cases h1 : ltL a b
  · exact h1
  · obtain ⟨k1, k2, k3⟩ := ltL_tri h1 (pw_get.1 t.srt i j a b hij ha hb)
    exact absurd (held_key t.srtK (t.of.pair s) (t.perm.mem_iff.1 (List.mem_of_getElem? ha)) (t.perm.mem_iff.1 (List.mem_of_getElem? hb)) k1 k2 k3) hne
theorem sumM_names (s : TSt h tb bw bp bl c vb heads N Ts W wc F B) {K : List HE} (t : NamesOf Ts K) : sumM Ts = K.length := by
  have := t.perm.length_eq
  rw [List.length_map, List.length_flatMap] at this
  rw [this]
  unfold sumM
  congr 1
  exact List.map_congr_left fun b _ => by simp
theorem ltL_irr {a : L4} : ¬ ltL a a := by unfold ltL ltN; simp only; omega
end
end Go.Proofs

namespace Go.Proofs
open Go.Vai Go.Clashes
section
variable {h : Heap} {tb bw bp bl : Nat} {c : Caps} {vb : Value} {heads N : Nat} {Ts : List TB} {W : List IE} {wc : Nat} {F : List Int} {B : List Bool}
/-- the counts at the law's end -/
theorem holds5 (s : TSt h tb bw bp bl c vb heads N Ts W wc F B) {b1 : Nat} (gc : h.bl.get b1 = some (cellsO [.int .i64 c.S, .int .i64 c.H, .int .i64 c.R, .int .i64 c.P] 29 false)) {v20 v21 : Value} {K K2 : List HE} {D : List L4} (t : TTold h Ts v20 K) (ta : ATold h Ts v21 D K2)
    {l28 : List Value} (s77 : slot l28 77 = .int .i64 (sumQ K : Nat)) (s98 : slot l28 98 = .int .i64 ((K.flatMap heldE).length : Nat)) (κ : Value → Heap → Prop) (hk : ∀ h', κ (.bool true) h') :
    rs_5_5 (.pointer (some ⟨tb, 0, none⟩)) v20 l28 b1 v21 h κ := by
  unfold rs_5_5
  refine tCounts_w s _ ?_
  obtain ⟨x1, c1, ev1, _⟩ := (show Sl encH h v20 K from t.sl)
  obtain ⟨x2, c2, ev2, _⟩ := (show Sl encL h v21 D from ta.sl)
  have hlen1 : ∀ (β : Type) (fl : β) (h' : Heap) (κ : Value → Heap → β), lenSli fl v20 h' κ = κ (.int .i64 (K.length : Int)) h' := fun β fl h' κ => by rw [ev1]; exact lenSli_eq _ _ _ _ _
  have hlen2 : ∀ (β : Type) (fl : β) (h' : Heap) (κ : Value → Heap → β), lenSli fl v21 h' κ = κ (.int .i64 (D.length : Int)) h' := fun β fl h' κ => by rw [ev2]; exact lenSli_eq _ _ _ _ _
  have hM := sumM_names s t.of
  have hS := s.sum t.of
  have hR := s.cR
  have hD : D.length = (K.flatMap heldE).length := by rw [ta.perm.length_eq, told_held s (Alike.refl Ts) t.of ta.of]
  simp (disch := first | omega | (simp only [Wx]; done) | (simp only [Wy]; done) | (simp only [Wv]; omega) | with_unfolding_all rfl) only [Wz, ptrTo, sliceTo, hlen1, dec_t (show ((sumM Ts : Nat) : Int) = (K.length : Int) by omega), s77, dec_t (show (B.length : Int) - F.length = ((sumQ K : Nat) : Int) by omega), gc, lt_f (show ((sumQ K : Nat) : Int) ≤ c.R by omega), s98, hlen2, dec_t (show (((K.flatMap heldE).length : Nat) : Int) = (D.length : Int) by omega)]
  exact hk h
/-- all that hold, one by one -/
theorem holds4 (s : TSt h tb bw bp bl c vb heads N Ts W wc F B) (hlo : h.lo ≤ h.nx) {v21 : Value} {K2 : List HE} {D : List L4} (ta : ATold h Ts v21 D K2)
    {l156 : List Value} {i : Nat} (s83 : slot l156 83 = .int .i64 (i : Int)) (hi : i < D.length) (N155 : List Value → Heap → Prop) (v157 v158 : Value) (κ : Value → Heap → Prop)
    (hN : ∀ l h', slot l 83 = .int .i64 ((i + 1 : Nat) : Int) → Le h h' → N155 l h') :
    rs_5_4 l156 v21 N155 v157 v158 h κ := by
  unfold rs_5_4
  have hDl := s.heldLen ta
  obtain ⟨a, ha⟩ : ∃ a, D[i]? = some a := ⟨_, List.getElem?_eq_getElem hi⟩
  obtain ⟨ba, oa, _, hxa, hra⟩ := ldL ta.sl i ha
  have inner : ∀ (h2 : Heap), Le h h2 → ∀ (l246 : List Value) (k : Nat) (N245 : List Value → Heap → Prop) (v247 : Value), slot l246 31 = .int .i64 (k : Int) → k < i →
      (∀ l, slot l 31 = .int .i64 ((k + 1 : Nat) : Int) → N245 l h2) → rs_5_3 v21 l246 l156 N245 v247 h2 κ := by
    intro h2 le2 l246 k N245 v247 s31 hki hN2
    unfold rs_5_3
    obtain ⟨d, hd⟩ : ∃ d, D[k]? = some d := ⟨_, List.getElem?_eq_getElem (by omega)⟩
    have ta2 := ta.le le2
    obtain ⟨bd, od, _, hxd, hrd⟩ := ldL ta2.sl k hd
    obtain ⟨ba2, oa2, _, hxa2, hra2⟩ := ldL ta2.sl i ha
    have hlt := ta.lt s hki hd ha
    by_cases hn : d.t = a.t ∧ d.r = a.r
    · have hcm : cmp d.m a.m = true := held_cm ta.srtK (ta.of.pair s) (ta.perm.mem_iff.1 (List.mem_of_getElem? hd)) (ta.perm.mem_iff.1 (List.mem_of_getElem? ha)) hlt.2 hn.1 hn.2
      simp (disch := first | omega | (simp only [Wx]; done) | (simp only [Wy]; done) | (simp only [Wv]; omega) | with_unfolding_all rfl) only [Wz, ptrTo, sliceTo, s31, s83, hxd, hrd, hxa2, hra2, bin_eqN, dec_t hn]
      refine rcompat_w _ _ ?_
      rw [hcm]
      simp (disch := first | omega | (simp only [Wx]; done) | (simp only [Wy]; done) | (simp only [Wv]; omega) | with_unfolding_all rfl) only [Wz, ptrTo, sliceTo, s31]
      exact hN2 _ rfl
    · simp (disch := first | omega | (simp only [Wx]; done) | (simp only [Wy]; done) | (simp only [Wv]; omega) | with_unfolding_all rfl) only [Wz, ptrTo, sliceTo, s31, s83, hxd, hrd, hxa2, hra2, bin_eqN, dec_f hn]
      exact hN2 _ rfl
  have hcases : i = 0 ∨ ∃ i', i = i' + 1 := by
    cases i with
    | zero => exact .inl rfl
    | succ i' => exact .inr ⟨i', rfl⟩
  rcases hcases with hi0 | ⟨i', hii⟩
  case' inl =>
    simp (disch := first | omega | (simp only [Wx]; done) | (simp only [Wy]; done) | (simp only [Wv]; omega) | with_unfolding_all rfl) only [Wz, ptrTo, sliceTo, s83, lt_f (show (i : Int) ≤ 0 by omega)]
    obtain ⟨h2, e2, le2⟩ : ∃ h2, h2 = h ∧ Le h h2 := ⟨h, rfl, Le.refl h⟩
    rw [← e2]
    clear e2
  case' inr =>
    obtain ⟨d, hd⟩ : ∃ d, D[i']? = some d := ⟨_, List.getElem?_eq_getElem (by omega)⟩
    obtain ⟨bd, od, _, hxd, hrd⟩ := ldL ta.sl i' hd
    have e1 : (i : Int) - 1 = (i' : Int) := by omega
    have hlt := (ta.lt s (show i' < i by omega) hd ha).1
    unfold ltL at hlt
    by_cases hxx : d.x < a.x
    case' pos =>
      simp (disch := first | omega | (simp only [Wx]; done) | (simp only [Wy]; done) | (simp only [Wv]; omega) | with_unfolding_all rfl) only [Wz, ptrTo, sliceTo, s83, lt_t (show (0 : Int) < (i : Int) by omega), e1, hxd, hrd, hxa, hra, lt_f (show d.x ≤ a.x by omega), dec_f (show ¬ d.x = a.x by omega)]
      obtain ⟨h2, e2, le2⟩ : ∃ h2, h2 = h ∧ Le h h2 := ⟨h, rfl, Le.refl h⟩
      rw [← e2]
      clear e2
    case' neg =>
      have hxe : d.x = a.x := (hlt.resolve_left hxx).1
      have hln : ltN (d.t, d.r) (a.t, a.r) := (hlt.resolve_left hxx).2
      simp (disch := first | omega | (simp only [Wx]; done) | (simp only [Wy]; done) | (simp only [Wv]; omega) | with_unfolding_all rfl) only [Wz, ptrTo, sliceTo, s83, lt_t (show (0 : Int) < (i : Int) by omega), e1, hxd, hrd, hxa, hra, lt_f (show d.x ≤ a.x by omega), dec_t hxe]
      refine rCompareN_w _ _ _ _ _ _ hln ?_
      intro h2 le2
      simp (disch := first | omega | (simp only [Wx]; done) | (simp only [Wy]; done) | (simp only [Wv]; omega) | with_unfolding_all rfl) only [Wz, ptrTo, sliceTo, lt_t (show (-1 : Int) < 0 by decide)]
  all_goals
    refine ⟨fun m l h3 => ∃ k : Nat, slot l 31 = .int .i64 (k : Int) ∧ m = i - k ∧ k ≤ i ∧ HQ h2 h3, ⟨_, 0, rfl, rfl, by omega, rfl⟩, ?_⟩
    rintro m l h3 ⟨k, s31, rfl, hk, hq⟩
    cases (show h2 = h3 from hq)
    by_cases hki : k < i
    · simp (disch := first | omega | (simp only [Wx]; done) | (simp only [Wy]; done) | (simp only [Wv]; omega) | with_unfolding_all rfl) only [Wz, ptrTo, sliceTo, s31, s83, lt_t (show (k : Int) < (i : Int) by omega)]
      refine inner _ le2 _ k _ _ s31 hki ?_
      intro l4 s4
      exact ⟨_, by omega, k + 1, s4, rfl, by omega, rfl⟩
    · simp (disch := first | omega | (simp only [Wx]; done) | (simp only [Wy]; done) | (simp only [Wv]; omega) | with_unfolding_all rfl) only [Wz, ptrTo, sliceTo, s31, s83, lt_f (show (i : Int) ≤ (k : Int) by omega)]
      exact hN _ _ rfl le2
/-- the stripes, and what follows -/
theorem holds7 (s : TSt h tb bw bp bl c vb heads N Ts W wc F B) (hlo : h.lo ≤ h.nx) {b1 mb : Nat} (gc : h.bl.get b1 = some (cellsO [.int .i64 c.S, .int .i64 c.H, .int .i64 c.R, .int .i64 c.P] 29 false)) (hb1 : b1 < h.nx) {v20 v21 : Value} {K K2 : List HE} {D : List L4} (t : TTold h Ts v20 K) (ta : ATold h Ts v21 D K2)
    (gm : h.bl.get mb = some (cellsO ((manyL c.S Ts.length (K.map nmOf)).map fun x => Value.int .i64 x) 3 false))
    {l28 : List Value} (s77 : slot l28 77 = .int .i64 (sumQ K : Nat)) (s98 : slot l28 98 = .int .i64 ((K.flatMap heldE).length : Nat))
    {l143 : List Value} {k : Nat} (s14 : slot l143 14 = .int .i64 (k : Int)) (hk : k ≤ Ts.length) (N142 : List Value → Heap → Prop) (hN : k < Ts.length → ∀ l, slot l 14 = .int .i64 ((k + 1 : Nat) : Int) → N142 l h) (κ : Value → Heap → Prop) (hκ : ∀ h', κ (.bool true) h') :
    rs_5_7 b1 l143 (.slice (some ⟨mb, 0, none⟩) Ts.length Ts.length) N142 v21 (.pointer (some ⟨tb, 0, none⟩)) v20 l28 h κ := by
  unfold rs_5_7
  have cS := s.is.cS
  have hs1 := s.is.s1
  have hhd := s.is.hd
  by_cases hkl : k < Ts.length
  · have hmg := manyL_get (S := c.S) (L := K.map nmOf) hkl
    have hr : ((manyL c.S Ts.length (K.map nmOf)).map fun x => Value.int .i64 x)[k]? = some (.int .i64 (cntS c.S (K.map nmOf) k : Nat)) := by rw [List.getElem?_map, hmg]; rfl
    have hc := s.cnt t.of k
    have cH := s.cH
    simp (disch := first | omega | (simp only [Wx]; done) | (simp only [Wy]; done) | (simp only [Wv]; omega) | with_unfolding_all rfl) only [Wz, ptrTo, sliceTo, gc, s14, lt_t (show (k : Int) < c.S by omega), rs_5_6, indexAddr_eq, Nat.mul_one, gm, hr, lt_f (show ((cntS c.S (K.map nmOf) k : Nat) : Int) ≤ c.H by omega)]
    exact hN hkl _ rfl
  · simp (disch := first | omega | (simp only [Wx]; done) | (simp only [Wy]; done) | (simp only [Wv]; omega) | with_unfolding_all rfl) only [Wz, ptrTo, sliceTo, gc, s14, lt_f (show c.S ≤ (k : Int) by omega)]
    have hDl := s.heldLen ta
    obtain ⟨x2, c2, ev2, _⟩ := (show Sl encL h v21 D from ta.sl)
    have hlen2 : ∀ (β : Type) (fl : β) (h' : Heap) (κ : Value → Heap → β), lenSli fl v21 h' κ = κ (.int .i64 (D.length : Int)) h' := fun β fl h' κ => by rw [ev2]; exact lenSli_eq _ _ _ _ _
    refine ⟨fun m l h3 => ∃ i : Nat, slot l 83 = .int .i64 (i : Int) ∧ m = D.length - i ∧ i ≤ D.length ∧ Le h h3, ⟨_, 0, rfl, rfl, by omega, Le.refl h⟩, ?_⟩
    rintro m l h3 ⟨i, s83, rfl, hi, le3⟩
    have n3 := le3.nx
    have l3 := le3.lo
    by_cases hil : i < D.length
    · simp (disch := first | omega | (simp only [Wx]; done) | (simp only [Wy]; done) | (simp only [Wv]; omega) | with_unfolding_all rfl) only [Wz, ptrTo, sliceTo, hlen2, s83, lt_t (show (i : Int) < (D.length : Int) by omega)]
      refine holds4 (s.le le3) (by omega) (ta.le le3) s83 hil _ _ _ κ ?_
      intro l4 h4 s4 le4
      exact ⟨_, by omega, i + 1, s4, rfl, by omega, le3.trans le4⟩
    · simp (disch := first | omega | (simp only [Wx]; done) | (simp only [Wy]; done) | (simp only [Wv]; omega) | with_unfolding_all rfl) only [Wz, ptrTo, sliceTo, hlen2, s83, lt_f (show (D.length : Int) ≤ (i : Int) by omega)]
      exact holds5 (s.le le3) ((le3.get _ hb1).trans gc) (t.le le3) (ta.le le3) s77 s98 κ hκ
end
end Go.Proofs

namespace Go.Proofs
open Go.Vai Go.Clashes
section
variable {h4 h : Heap} {tb bw bp bl : Nat} {c : Caps} {vb : Value} {heads N : Nat} {Ts : List TB} {W : List IE} {wc : Nat} {F : List Int} {B : List Bool}
/-- one head of the table -/
theorem holds8 (s : TSt h4 tb bw bp bl c vb heads N Ts W wc F B) (hlo4 : h4.lo ≤ h4.nx) (hN0 : N ≤ 1000) {b1 : Nat} (gc : h4.bl.get b1 = some (cellsO [.int .i64 c.S, .int .i64 c.H, .int .i64 c.R, .int .i64 c.P] 29 false)) (hb1 : b1 < h4.nx) {v20 : Value} {K : List HE} (t : TTold h4 Ts v20 K)
    (le : Le h4 h) (hmb : h4.nx < h.nx) {i : Nat} (gm : h.bl.get h4.nx = some (cellsO ((manyL c.S Ts.length ((K.take i).map nmOf)).map fun x => Value.int .i64 x) 3 false))
    {l28 : List Value} (s104 : slot l28 104 = .int .i64 (i : Int)) (s77 : slot l28 77 = .int .i64 (sumQ (K.take i) : Nat)) (s98 : slot l28 98 = .int .i64 (((K.take i).flatMap heldE).length : Nat))
    (hi : i < K.length) (N27 : List Value → Heap → Prop) (v29 v30 : Value) (κ : Value → Heap → Prop)
    (hN : ∀ l h', slot l 104 = .int .i64 ((i + 1 : Nat) : Int) → slot l 77 = .int .i64 (sumQ (K.take (i + 1)) : Nat) → slot l 98 = .int .i64 (((K.take (i + 1)).flatMap heldE).length : Nat) → Le h4 h' → h4.nx < h'.nx → h'.bl.get h4.nx = some (cellsO ((manyL c.S Ts.length ((K.take (i + 1)).map nmOf)).map fun x => Value.int .i64 x) 3 false) → N27 l h') :
    rs_5_8 v20 l28 (.pointer (some ⟨tb, 0, none⟩)) b1 (.slice (some ⟨h4.nx, 0, none⟩) Ts.length Ts.length) N27 v29 v30 h κ := by
  unfold rs_5_8
  have n0 := le.nx
  have l0 := le.lo
  have cS := s.is.cS
  have hs1 := s.is.s1
  have hKl := s.headsLen t.of
  have hsum := s.sum t.of
  have hsm := s.is.pool.small
  obtain ⟨e, he⟩ : ∃ e, K[i]? = some e := ⟨_, List.getElem?_eq_getElem hi⟩
  have heK := List.mem_of_getElem? he
  have qv := (t.each e heK).2
  obtain ⟨vqe, stke, sme, wbe, k, hst, hk⟩ := s.vq t.of heK
  have eslv := slV_sl qv.1
  obtain ⟨b6, o6, hb6, hx6, hr6⟩ := ldHs t.sl i he eslv
  have R0 := hr6 h le
  have hstep := sumQ_take he
  have hheld := heldE_take he
  have htk : sumQ (K.take i) ≤ sumQ K := by
    have e : sumQ K = sumQ (K.take i) + sumQ (K.drop i) := by
      conv => lhs; rw [← List.take_append_drop i K]
      unfold sumQ; rw [List.map_append, List.sum_append]
    omega
  have hhb := held_bound (K := K.take i) fun x hx => s.queueLen t.of x (List.mem_of_mem_take hx)
  have htl : (K.take i).length ≤ K.length := by rw [List.length_take]; omega
  obtain ⟨qx, qc, eqq, _⟩ := (show Sl enc5 h4 e.q e.Q from qv.1)
  simp (maxSteps := 3000000) (disch := first | omega | (simp only [Wx]; done) | (simp only [Wy]; done) | (simp only [Wv]; omega) | with_unfolding_all rfl) only [Wz, ptrTo, sliceTo, s104, hx6, R0]
  refine tstripe_w (s.is.le le) (by omega) e.t e.r _ ?_
  intro h6 le6
  rw [hst]
  have n6 := le6.nx
  have l6 := le6.lo
  have R6 := hr6 h6 (le.trans le6)
  simp (maxSteps := 3000000) (disch := first | omega | (simp only [Wx]; done) | (simp only [Wy]; done) | (simp only [Wv]; omega) | with_unfolding_all rfl) only [Wz, ptrTo, sliceTo, s104, hx6, R6]
  have q6 := qv.1.le (le.trans le6)
  refine rscan_w e.t e.r e.q e.w e.Q h6 _ q6 (by omega) (by omega) vqe.pair stke ?_
  intro q7 h7 ho7 le7
  have n7 := le7.nx
  have l7 := le7.lo
  obtain ⟨qx7, qc7, rfl, _⟩ := id ho7.sl
  obtain ⟨h8, e8⟩ : ∃ h8 : Heap, h8 = ⟨h7.nx + 1, h7.bl.upd h7.nx (cellsO [.int .i64 e.t, .int .i64 e.r, .slice qx7 e.Q.length qc7, .int .i64 e.w] 51 false), h7.lo⟩ := ⟨_, rfl⟩
  have le78 : Le h7 h8 := by rw [e8]; exact (Le.refl h7).new _
  have n8 : h8.nx = h7.nx + 1 := by rw [e8]
  have l8 : h8.lo = h7.lo := by rw [e8]
  have le48 : Le h4 h8 := ((le.trans le6).trans le7).trans le78
  have R7 := hr6 h7 ((le.trans le6).trans le7)
  have R8 := hr6 h8 le48
  have gc7 := (((le.trans le6).trans le7).get _ hb1).trans gc
  have gc8 := (le48.get _ hb1).trans gc
  have hb7 : b1 ≠ h7.nx := by omega
  simp (maxSteps := 3000000) (disch := first | omega | (simp only [Wx]; done) | (simp only [Wy]; done) | (simp only [Wv]; omega) | with_unfolding_all rfl) only [Wz, ptrTo, sliceTo, hdV, s104, hx6, R7, gc7, lt_f (show (0 : Int) ≤ (k : Int) by omega), lt_t (show (k : Int) < c.S by omega)]
  rw [← e8]
  refine rcheck_w e.t e.r e.q e.w e.Q h8 _ (qv.1.le le48) (by omega) (by omega) vqe (by omega) ?_
  intro h9 le9
  have n9 := le9.nx
  have l9 := le9.lo
  have le49 := le48.trans le9
  have R9 := hr6 h9 le49
  have leh9 : Le h h9 := ((le6.trans le7).trans le78).trans le9
  have gm9 := (leh9.get _ hmb).trans gm
  have hcases : i = 0 ∨ ∃ i', i = i' + 1 := by
    cases i with
    | zero => exact .inl rfl
    | succ i' => exact .inr ⟨i', rfl⟩
  have hpre : ∀ i' (d : HE), i = i' + 1 → K[i']? = some d → ltN (nmOf d) (nmOf e) := fun i' d hi' hd =>
    pw_get.1 t.srt i' i (nmOf d) (nmOf e) (by omega) (by rw [List.getElem?_map, hd]; rfl) (by rw [List.getElem?_map, he]; rfl)
  have hmg := manyL_get (S := c.S) (L := (K.take i).map nmOf) hk
  have hml := manyL_len c.S Ts.length ((K.take i).map nmOf)
  have hset := manyL_set (S := c.S) (L := (K.take i).map nmOf) (x := nmOf e) (k := k) hst hk
  have htake : (K.take i).map nmOf ++ [nmOf e] = (K.take (i + 1)).map nmOf := by rw [List.take_add_one, he]; simp
  rw [htake] at hset
  have hcb : cntS c.S ((K.take i).map nmOf) k ≤ 1024 := by
    have := List.countP_le_length (p := fun n : Int × Int => decide (strN n.1 n.2 c.S = (k : Int))) (l := (K.take i).map nmOf)
    rw [List.length_map] at this
    unfold cntS; omega
  have hr : ((manyL c.S Ts.length ((K.take i).map nmOf)).map fun x => Value.int .i64 x)[k]? = some (.int .i64 (cntS c.S ((K.take i).map nmOf) k : Nat)) := by rw [List.getElem?_map, hmg]; rfl
  have hkm : k < (manyL c.S Ts.length ((K.take i).map nmOf)).length := by omega
  have hlm : ((manyL c.S Ts.length ((K.take i).map nmOf)).map fun x => Value.int .i64 x).length = Ts.length := by rw [List.length_map, hml]
  rcases hcases with hi0 | ⟨i', hii⟩
  case' inl =>
    simp (maxSteps := 3000000) (disch := first | omega | (simp only [Wx]; done) | (simp only [Wy]; done) | (simp only [Wv]; omega) | with_unfolding_all rfl) only [Wz, ptrTo, sliceTo, s104, lenSli_eq, lt_f (show ((0 : Nat) : Int) ≤ 0 by omega), lt_f (show (i : Int) ≤ 0 by omega)]
    obtain ⟨hA, eA, leA, gmA⟩ : ∃ hA, hA = h9 ∧ Le h9 hA ∧ hA.bl.get h4.nx = some (cellsO ((manyL c.S Ts.length ((K.take i).map nmOf)).map fun x => Value.int .i64 x) 3 false) := ⟨h9, rfl, Le.refl h9, gm9⟩
    rw [← eA]
    clear eA
  case' inr =>
    obtain ⟨d, hd'⟩ : ∃ d, K[i']? = some d := ⟨_, List.getElem?_eq_getElem (by omega)⟩
    have hlt := hpre i' d hii hd'
    unfold nmOf at hlt
    have e1 : (i : Int) - 1 = (i' : Int) := by omega
    obtain ⟨b10, o10, hb10, hx10, hr10⟩ := ldHs t.sl i' hd' (slV_sl (t.each d (List.mem_of_getElem? hd')).2.1)
    have S9 := hr10 h9 le49
    simp (maxSteps := 3000000) (disch := first | omega | (simp only [Wx]; done) | (simp only [Wy]; done) | (simp only [Wv]; omega) | with_unfolding_all rfl) only [Wz, ptrTo, sliceTo, s104, lenSli_eq, lt_f (show ((0 : Nat) : Int) ≤ 0 by omega), lt_t (show (0 : Int) < (i : Int) by omega), e1, hx10, S9, hx6, R9]
    refine rCompareN_w _ _ _ _ _ _ hlt ?_
    intro hA leA
    have gmA := (leA.get _ (show h4.nx < h9.nx by omega)).trans gm9
    simp (maxSteps := 3000000) (disch := first | omega | (simp only [Wx]; done) | (simp only [Wy]; done) | (simp only [Wv]; omega) | with_unfolding_all rfl) only [Wz, ptrTo, sliceTo, lt_t (show (-1 : Int) < 0 by decide)]
  all_goals
    have nA := leA.nx
    have lA := leA.lo
    have le4A := le49.trans leA
    have RA := hr6 hA le4A
    unfold rs_5_2
    have hov := over_ints (b := (cntS c.S ((K.take i).map nmOf) k : Int) + 1) hkm
    rw [hset] at hov
    simp (maxSteps := 3000000) (disch := first | omega | (simp only [Wx]; done) | (simp only [Wy]; done) | (simp only [Wv]; omega) | with_unfolding_all rfl) only [Wz, ptrTo, sliceTo, s104, hx6, RA, indexAddr_eq, Nat.mul_one, gmA, hr, hov]
    obtain ⟨hB, eB⟩ : ∃ hB : Heap, hB = ⟨hA.nx, hA.bl.upd h4.nx (cellsO ((manyL c.S Ts.length ((K.take (i + 1)).map nmOf)).map fun x => Value.int .i64 x) 3 false), hA.lo⟩ := ⟨_, rfl⟩
    have le4B : Le h4 hB := by rw [eB]; exact le4A.set (Nat.le_refl _) _
    have gmB : hB.bl.get h4.nx = some (cellsO ((manyL c.S Ts.length ((K.take (i + 1)).map nmOf)).map fun x => Value.int .i64 x) 3 false) := by rw [eB]; exact T.get_upd_same _ _ _
    have nB : hB.nx = hA.nx := by rw [eB]
    have lB : hB.lo = hA.lo := by rw [eB]
    have RB := hr6 hB le4B
    rw [← eB]
    clear eB
    have qB := qv.1.le le4B
    simp (maxSteps := 3000000) (disch := first | omega | (simp only [Wx]; done) | (simp only [Wy]; done) | (simp only [Wv]; omega) | with_unfolding_all rfl) only [Wz, ptrTo, sliceTo, qB.len, s77]
    refine ⟨fun m l h' => ∃ j : Nat, slot l 23 = .int .i64 (j : Int) ∧ slot l 20 = .int .i64 ((((K.take i).flatMap heldE).length + (heldQ e.t e.r (e.Q.take j)).length : Nat) : Int) ∧ m = e.Q.length - j ∧ j ≤ e.Q.length ∧ HQ hB h', ⟨_, 0, rfl, ?_, rfl, by omega, rfl⟩, ?_⟩
    · rw [List.take_zero]; exact s98
    rintro m l3 h' ⟨j, s23, s20, rfl, hj, hq⟩
    cases (show hB = h' from hq)
    have hmono := heldQ_len (t := e.t) (r := e.r) (e.Q.take j)
    have htl2 : (e.Q.take j).length ≤ e.Q.length := by rw [List.length_take]; omega
    by_cases hjl : j < e.Q.length
    · obtain ⟨p, hp⟩ : ∃ p, e.Q[j]? = some p := ⟨_, List.getElem?_eq_getElem hjl⟩
      obtain ⟨b11, o11, hb11, hx11, hp11⟩ := ld5 qB j hp
      have hqs := heldQ_take (t := e.t) (r := e.r) hp
      simp (maxSteps := 3000000) (disch := first | omega | (simp only [Wx]; done) | (simp only [Wy]; done) | (simp only [Wv]; omega) | with_unfolding_all rfl) only [Wz, ptrTo, sliceTo, rs_5_1, s104, hx6, RB, qB.len, s23, lt_t (show (j : Int) < (e.Q.length : Int) by omega)]
      refine ⟨fun l' h' => slot l' 12 = .int .i64 ((((K.take i).flatMap heldE).length + (heldQ e.t e.r (e.Q.take (j + 1))).length : Nat) : Int) ∧ HQ hB h', ?_, ?_⟩
      rotate_left
      · rintro l' h' ⟨s12, hq⟩
        cases (show hB = h' from hq)
        exact ⟨_, by omega, j + 1, rfl, s12, rfl, by omega, rfl⟩
      by_cases hm0 : p.m = 0
      · simp (maxSteps := 3000000) (disch := first | omega | (simp only [Wx]; done) | (simp only [Wy]; done) | (simp only [Wv]; omega) | with_unfolding_all rfl) only [Wz, ptrTo, sliceTo, rs_5_0, s104, hx6, RB, s23, hx11, hp11, dec_t hm0]
        refine ⟨?_, rfl⟩
        rw [hqs, if_neg (by omega), List.append_nil]
        exact s20
      · simp (maxSteps := 3000000) (disch := first | omega | (simp only [Wx]; done) | (simp only [Wy]; done) | (simp only [Wv]; omega) | with_unfolding_all rfl) only [Wz, ptrTo, sliceTo, rs_5_0, s104, hx6, RB, s23, hx11, hp11, dec_f hm0, s20]
        refine ⟨?_, rfl⟩
        rw [hqs, if_pos hm0, List.length_append]
        rfl
    · have hje : j = e.Q.length := by omega
      simp (maxSteps := 3000000) (disch := first | omega | (simp only [Wx]; done) | (simp only [Wy]; done) | (simp only [Wv]; omega) | with_unfolding_all rfl) only [Wz, ptrTo, sliceTo, rs_5_1, s104, hx6, RB, qB.len, s23, lt_f (show (e.Q.length : Int) ≤ (j : Int) by omega)]
      refine hN _ _ rfl ?_ ?_ le4B (by omega) gmB
      · rw [hstep]; rfl
      · rw [hheld, List.length_append]
        rw [hje, List.take_length] at s20
        exact s20
end
end Go.Proofs

namespace Go.Proofs
open Go.Vai Go.Clashes
theorem lawHoldsT_w (c : Caps) (L : List Act) (h : Heap) (v : Value) (hv : Sl encA h v L) (hlo : h.lo ≤ h.nx) (hno : ∀ c vs t, h.bl.get c ≠ some (cellsO vs t true)) (κ : Value → Heap → Prop) (hk : ∀ h', κ (.bool true) h') :
    CallW Tryz.prog 5 [capsV c, v] h κ := by
  obtain ⟨x, cc, ev, _⟩ := (show Sl encA h v L from hv)
  refine callW_of mixed ?_
  rw [rs_5, ev]
  have hnoA := noNewT hno [.int .i64 c.S, .int .i64 c.H, .int .i64 c.R, .int .i64 c.P] 29 h.nx
  simp (disch := first | omega | (simp only [Wx]; done) | (simp only [Wy]; done) | (simp only [Wv]; omega) | with_unfolding_all rfl) only [Wz, ptrTo, sliceTo, capsV]
  obtain ⟨hA, e_hA⟩ : ∃ hA : Heap, hA = ⟨h.nx + 1, h.bl.upd h.nx (cellsO [.int .i64 c.S, .int .i64 c.H, .int .i64 c.R, .int .i64 c.P] 29 false), h.lo⟩ := ⟨_, rfl⟩
  have le_hA : Le h hA := by rw [e_hA]; exact (Le.refl h).new _
  have n_hA : hA.nx = h.nx + 1 := by rw [e_hA]
  have l_hA : hA.lo = h.lo := by rw [e_hA]
  have gc : hA.bl.get h.nx = some (cellsO [.int .i64 c.S, .int .i64 c.H, .int .i64 c.R, .int .i64 c.P] 29 false) := by rw [e_hA]; exact T.get_upd_same _ _ _
  have hnoC : ∀ c ws t', hA.bl.get c ≠ some (cellsO ws t' true) := by rw [e_hA]; exact hnoA
  rw [← e_hA]
  clear e_hA
  refine closedW mixed livesT_a ?_
  by_cases h50 : L.length ≤ 50
  case neg =>
    simp (disch := first | omega | (simp only [Wx]; done) | (simp only [Wy]; done) | (simp only [Wv]; omega) | with_unfolding_all rfl) only [Wz, ptrTo, sliceTo, dec_t (show (50 : Int) < (L.length : Int) by omega)]
    exact hk hA
  simp (disch := first | omega | (simp only [Wx]; done) | (simp only [Wy]; done) | (simp only [Wv]; omega) | with_unfolding_all rfl) only [Wz, ptrTo, sliceTo, lt_f (show (L.length : Int) ≤ 50 by omega), rs_5_11, gc]
  refine tNew_w c hA _ (by omega) ?_ ?_
  · intro h' e he
    simp (disch := first | omega | (simp only [Wx]; done) | (simp only [Wy]; done) | (simp only [Wv]; omega) | with_unfolding_all rfl) only [Wz, ptrTo, sliceTo, dec_f he, bin_eqT0]
    exact hk h'
  intro h1 tb bw bp bl vb heads T0 F0 s0 gbm gbw gbp gbl fr0
  simp (disch := first | omega | (simp only [Wx]; done) | (simp only [Wy]; done) | (simp only [Wv]; omega) | with_unfolding_all rfl) only [Wz, ptrTo, sliceTo]
  refine ⟨fun m l h2 => ∃ (i : Nat) (Ts : List TB) (W : List IE) (wc : Nat) (F : List Int) (B : List Bool), slot l 12 = .int .i64 (i : Int) ∧ m = L.length - i ∧ i ≤ L.length ∧ TSt h2 tb bw bp bl c vb heads i Ts W wc F B ∧ Ts.map (·.bm) = T0.map (·.bm) ∧ FrT T0 bw bp bl hA h2, ⟨_, 0, T0, [], 0, F0, _, rfl, rfl, by omega, s0, rfl, fr0⟩, ?_⟩
  rintro m l h2 ⟨i, Ts, W, wc, F, B, s1, rfl, hi, s, hbm, fr⟩
  have le2 := fr.toLe hnoC gbm gbw gbp gbl
  have n2 := le2.nx
  have l2 := le2.lo
  by_cases hst : i < L.length
  · obtain ⟨q, hq⟩ : ∃ q, L[i]? = some q := ⟨_, List.getElem?_eq_getElem hst⟩
    obtain ⟨b1, o1, hb1, hat1, _, hh1⟩ := (hv.le (le_hA.trans le2)).ld encA_len i hq
    have rr := fun (β : Type) (fl : β) κ => ldA_has (fl := fl) hh1 6 κ rfl
    rw [ev] at hat1
    simp (disch := first | omega | (simp only [Wx]; done) | (simp only [Wy]; done) | (simp only [Wv]; omega) | with_unfolding_all rfl) only [Wz, ptrTo, sliceTo, rs_5_10, s1, lt_t (show (i : Int) < (L.length : Int) by omega), hat1, rr]
    refine tcall_w s (by omega) (by omega) q _ ?_
    intro h3 Ts' W' wc' F' B' s3 hbm3 fr3
    exact ⟨_, by omega, i + 1, Ts', W', wc', F', B', rfl, rfl, by omega, s3, hbm3.trans hbm, fr.trans (fr3.congr hbm.symm)⟩
  have gc2 := (le2.get _ (by omega)).trans gc
  simp (disch := first | omega | (simp only [Wx]; done) | (simp only [Wy]; done) | (simp only [Wv]; omega) | with_unfolding_all rfl) only [Wz, ptrTo, sliceTo, rs_5_10, s1, lt_f (show (L.length : Int) ≤ (i : Int) by omega), rs_5_9]
  refine tSnap_w s (by omega) _ ?_
  intro v3 h3 K t3 le3
  have n3 := le3.nx
  have l3 := le3.lo
  refine tAll_w (s.le le3) (by omega) _ ?_
  intro v4 h4 D K2 ta4 le4
  have n4 := le4.nx
  have l4 := le4.lo
  have s4 := (s.le le3).le le4
  have t4 := t3.le le4
  have gc4 := ((le3.trans le4).get _ (by omega)).trans gc2
  have hs1 := s4.is.s1
  have hKl := s4.headsLen t4.of
  have hrl : (repeatL [Value.int .i64 (0 : Int)] Ts.length).length = Ts.length := by rw [repeat_int]; simp
  simp (maxSteps := 3000000) (disch := first | omega | (simp only [Wx]; done) | (simp only [Wy]; done) | (simp only [Wv]; omega) | with_unfolding_all rfl) only [Wz, ptrTo, sliceTo, gc4, s4.is.cS]
  rw [mkSl_eq _ _ _ _ _ (by omega) (by omega), repeat_int, ← manyL_nil c.S]
  obtain ⟨h5, e5⟩ : ∃ h5 : Heap, h5 = ⟨h4.nx + 1, h4.bl.upd h4.nx (cellsO ((manyL c.S Ts.length []).map fun x => Value.int .i64 x) 3 false), h4.lo⟩ := ⟨_, rfl⟩
  have le5 : Le h4 h5 := by rw [e5]; exact (Le.refl h4).new _
  have g5 : h5.bl.get h4.nx = some (cellsO ((manyL c.S Ts.length []).map fun x => Value.int .i64 x) 3 false) := by rw [e5]; exact T.get_upd_same _ _ _
  have n5 : h5.nx = h4.nx + 1 := by rw [e5]
  rw [← e5]
  clear e5
  refine ⟨fun m l h' => ∃ k : Nat, slot l 104 = .int .i64 (k : Int) ∧ slot l 77 = .int .i64 (sumQ (K.take k) : Nat) ∧ slot l 98 = .int .i64 (((K.take k).flatMap heldE).length : Nat) ∧ m = K.length - k ∧ k ≤ K.length ∧ Le h4 h' ∧ h4.nx < h'.nx ∧ h'.bl.get h4.nx = some (cellsO ((manyL c.S Ts.length ((K.take k).map nmOf)).map fun x => Value.int .i64 x) 3 false), ⟨_, 0, rfl, rfl, rfl, rfl, by omega, le5, by omega, g5⟩, ?_⟩
  rintro m l6 h6 ⟨k, s104, s77, s98, rfl, hk6, le6, n6, g6⟩
  have l6' := le6.lo
  obtain ⟨x4, c4, ev4, _⟩ := (show Sl encH h4 v3 K from t4.sl)
  have hlen4 : ∀ (β : Type) (fl : β) (h' : Heap) (κ : Value → Heap → β), lenSli fl v3 h' κ = κ (.int .i64 (K.length : Int)) h' := fun β fl h' κ => by rw [ev4]; exact lenSli_eq _ _ _ _ _
  by_cases hkl : k < K.length
  · simp (maxSteps := 3000000) (disch := first | omega | (simp only [Wx]; done) | (simp only [Wy]; done) | (simp only [Wv]; omega) | with_unfolding_all rfl) only [Wz, ptrTo, sliceTo, hlen4, s104, lt_t (show (k : Int) < (K.length : Int) by omega)]
    refine holds8 s4 (by omega) (by omega) gc4 (by omega) t4 le6 n6 g6 s104 s77 s98 hkl _ _ _ κ ?_
    intro l7 h7 e104 e77 e98 le7 n7 g7
    exact ⟨_, by omega, k + 1, e104, e77, e98, rfl, by omega, le7, n7, g7⟩
  · have hke : k = K.length := by omega
    subst hke
    rw [List.take_length] at s77 s98 g6
    simp (maxSteps := 3000000) (disch := first | omega | (simp only [Wx]; done) | (simp only [Wy]; done) | (simp only [Wv]; omega) | with_unfolding_all rfl) only [Wz, ptrTo, sliceTo, hlen4, s104, lt_f (show (K.length : Int) ≤ (K.length : Int) by omega)]
    refine ⟨fun m l h' => ∃ k : Nat, slot l 14 = .int .i64 (k : Int) ∧ m = Ts.length - k ∧ k ≤ Ts.length ∧ HQ h6 h', ⟨_, 0, rfl, rfl, by omega, rfl⟩, ?_⟩
    rintro m l7 h' ⟨k7, s14, rfl, hk7, hq⟩
    cases (show h6 = h' from hq)
    refine holds7 (s4.le le6) (by omega) ((le6.get _ (by omega)).trans gc4) (by omega) (t4.le le6) (ta4.le le6) g6 s77 s98 s14 hk7 _ ?_ κ hk
    intro hlt l8 e14
    exact ⟨_, by omega, k7 + 1, e14, rfl, by omega, rfl⟩
end Go.Proofs
