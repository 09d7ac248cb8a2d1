/-
  PROVED HERE: a part of the proof, by a calculus of weakest conditions over an abstract heap (U18).
-/
import Derived.Test.YtijmemedhkgplaaGreatDoorUC
set_option linter.unusedVariables false
set_option linter.unusedSimpArgs false
set_option maxRecDepth 100000
set_option maxHeartbeats 4000000
namespace Go.Proofs
open Go.Vai Go.Clashes
/-! ## the parts of TableHolds -/
theorem rCompareN_w (t r t' r' : Int) (h : Heap) (κ : Value → Heap → Prop) (hlt : ltN (t, r) (t', r')) (hk : ∀ h', Le h h' → κ (.int .i64 (-1)) h') :
    CallW Tryz.prog 23 [nmV t r, nmV t' r'] h κ := by
  unfold ltN at hlt
  simp only at hlt
  refine callW_of mixed ?_
  rw [rs_23]
  by_cases h1 : t < t'
  · simp (disch := first | omega | (simp only [Wx]; done) | (simp only [Wy]; done) | (simp only [Wv]; omega) | with_unfolding_all rfl) only [Wz, ptrTo, sliceTo, nmV, lt_t h1]
    exact hk _ (((Le.refl h).new _).new _)
  · have h2 : t = t' ∧ r < r' := by omega
    simp (disch := first | omega | (simp only [Wx]; done) | (simp only [Wy]; done) | (simp only [Wv]; omega) | with_unfolding_all rfl) only [Wz, ptrTo, sliceTo, nmV, lt_f (show t' ≤ t by omega), dec_t h2.1, lt_t h2.2]
    exact hk _ (((Le.refl h).new _).new _)
/-- how many of these heads stand in stripe k -/
def cntS (S : Int) (L : List (Int × Int)) (k : Nat) : Nat := L.countP fun n => decide (strN n.1 n.2 S = (k : Int))
def manyL (S : Int) (n : Nat) (L : List (Int × Int)) : List Int := (List.range n).map fun k => (cntS S L k : Int)
theorem manyL_len (S : Int) (n : Nat) (L : List (Int × Int)) : (manyL S n L).length = n := by unfold manyL; simp
theorem manyL_get {S : Int} {n : Nat} {L : List (Int × Int)} {k : Nat} (hk : k < n) : (manyL S n L)[k]? = some (cntS S L k : Int) := by
  unfold manyL
  rw [List.getElem?_map, List.getElem?_range hk]; rfl
theorem manyL_nil (S : Int) (n : Nat) : manyL S n [] = List.replicate n 0 := by
  refine List.ext_getElem? fun i => ?_
  by_cases hi : i < n
  · rw [manyL_get hi, List.getElem?_replicate, if_pos hi]; rfl
  · rw [List.getElem?_eq_none (by rw [manyL_len]; omega), List.getElem?_eq_none (by simp; omega)]
theorem manyL_set {S : Int} {n : Nat} {L : List (Int × Int)} {x : Int × Int} {k : Nat} (hx : strN x.1 x.2 S = (k : Int)) (hk : k < n) : (manyL S n L).set k ((cntS S L k : Int) + 1) = manyL S n (L ++ [x]) := by
  refine List.ext_getElem? fun i => ?_
  by_cases hi : i < n
  · rw [manyL_get hi, List.getElem?_set, manyL_len]
    by_cases hik : k = i
    · subst hik
      rw [if_pos rfl, if_pos hi]
      unfold cntS
      rw [List.countP_append, List.countP_cons_of_pos (by simpa using hx)]
      simp
    · rw [if_neg hik, manyL_get hi]
      unfold cntS
      rw [List.countP_append, List.countP_cons_of_neg (by rw [hx]; simp; omega)]
      simp
  · rw [List.getElem?_eq_none (by rw [List.length_set, manyL_len]; omega), List.getElem?_eq_none (by rw [manyL_len]; omega)]
theorem over_ints {B : List Int} {n : Nat} {b : Int} (h : n < B.length) : over (B.map fun x => Value.int .i64 x) n [.int .i64 b] = (B.set n b).map fun x => Value.int .i64 x := by
  unfold over
  rw [List.set_eq_take_append_cons_drop, if_pos h]
  simp [List.map_take, List.map_drop]
theorem repeat_int (n : Nat) : repeatL [Value.int .i64 0] n = (List.replicate n (0 : Int)).map fun x => Value.int .i64 x := by
  induction n with
  | zero => rfl
  | succ n ih => rw [List.replicate_succ, List.map_cons, ← ih]; rfl
theorem cnt_le {S : Int} {H k : Nat} : ∀ (L : List TB) (off : Nat), (∀ (j : Nat) (b : TB), L[j]? = some b → ∀ e ∈ b.M, strN e.t e.r S = ((off + j : Nat) : Int)) → (∀ b ∈ L, b.M.length ≤ H) → cntS S (L.flatMap fun b => b.M.map nmOf) k ≤ H := by
  intro L
  induction L with
  | nil => intro _ _ _; exact Nat.zero_le _
  | cons b L ih =>
    intro off hs hl
    have hb : ∀ e ∈ b.M, strN e.t e.r S = (off : Int) := fun e he => by have := hs 0 b rfl e he; rwa [Nat.add_zero] at this
    have hL : ∀ (j : Nat) (b : TB), L[j]? = some b → ∀ e ∈ b.M, strN e.t e.r S = ((off + 1 + j : Nat) : Int) := fun j b' hj e he => by
      have := hs (j + 1) b' hj e he
      rw [this]; congr 1; omega
    unfold cntS
    rw [List.flatMap_cons, List.countP_append]
    by_cases hk : off = k
    · have h0 : (L.flatMap fun b => b.M.map nmOf).countP (fun n => decide (strN n.1 n.2 S = (k : Int))) = 0 := by
        rw [List.countP_eq_zero]
        intro n hn
        obtain ⟨b', hb', hn⟩ := List.mem_flatMap.1 hn
        obtain ⟨e, he, rfl⟩ := List.mem_map.1 hn
        obtain ⟨j, hj⟩ := List.getElem?_of_mem hb'
        have := hL j b' hj e he
        show ¬ decide (strN e.t e.r S = (k : Int)) = true
        rw [this]; simp; omega
      have h1 := List.countP_le_length (p := fun n : Int × Int => decide (strN n.1 n.2 S = (k : Int))) (l := b.M.map nmOf)
      rw [List.length_map] at h1
      have := hl b (.head _)
      omega
    · have h0 : (b.M.map nmOf).countP (fun n => decide (strN n.1 n.2 S = (k : Int))) = 0 := by
        rw [List.countP_eq_zero]
        intro n hn
        obtain ⟨e, he, rfl⟩ := List.mem_map.1 hn
        have := hb e he
        show ¬ decide (strN e.t e.r S = (k : Int)) = true
        rw [this]; simp; omega
      have := ih (off + 1) hL fun x hx => hl x (.tail _ hx)
      unfold cntS at this
      omega
section
variable {h : Heap} {tb bw bp bl : Nat} {c : Caps} {vb : Value} {heads N : Nat} {Ts : List TB} {W : List IE} {wc : Nat} {F : List Int} {B : List Bool}
theorem TSt.cnt (s : TSt h tb bw bp bl c vb heads N Ts W wc F B) {K : List HE} (t : NamesOf Ts K) (k : Nat) : cntS c.S (K.map nmOf) k ≤ heads := by
  unfold cntS
  rw [t.perm.countP_eq]
  refine cnt_le Ts 0 (fun j b hj e he => ?_) s.len
  rw [s.nm j b hj e he]; congr 1; omega
theorem TSt.sum (s : TSt h tb bw bp bl c vb heads N Ts W wc F B) {K : List HE} (t : NamesOf Ts K) : sumQ K + F.length = B.length := by
  let M := Ts.flatMap fun b => b.M
  let f : Int × Int → Nat := fun n => ((M.find? fun e => decide (nmOf e = n)).map fun e => e.Q.length).getD 0
  have hM : ∀ e ∈ M, f (nmOf e) = e.Q.length := by
    intro e he
    show ((M.find? fun x => decide (nmOf x = nmOf e)).map fun e => e.Q.length).getD 0 = _
    cases hf : M.find? fun x => decide (nmOf x = nmOf e) with
    | none =>
      rw [List.find?_eq_none] at hf
      have := hf e he
      simp at this
    | some x =>
      have h1 := List.find?_some hf
      have h2 := List.mem_of_find?_eq_some hf
      have h3 : nmOf x = nmOf e := by simpa using h1
      obtain ⟨b1, hb1, hx⟩ := List.mem_flatMap.1 h2
      obtain ⟨b2, hb2, hy⟩ := List.mem_flatMap.1 he
      rw [s.uniq hb1 hb2 hx hy (congrArg Prod.fst h3) (congrArg Prod.snd h3)]; rfl
  have hK : ∀ k ∈ K, f (nmOf k) = k.Q.length := by
    intro k hk
    obtain ⟨b, hb, e, he, se⟩ := t.each k hk
    have : nmOf k = nmOf e := Prod.ext se.1 se.2.1
    rw [this, hM e (List.mem_flatMap.2 ⟨b, hb, he⟩), se.2.2.2]
  have e1 : K.map (fun e => e.Q.length) = (K.map nmOf).map f := by
    rw [List.map_map]; exact List.map_congr_left fun k hk => (hK k hk).symm
  have e2 : M.map (fun e => e.Q.length) = (M.map nmOf).map f := by
    rw [List.map_map]; exact List.map_congr_left fun k hk => (hM k hk).symm
  have e3 : M.map nmOf = Ts.flatMap fun b => b.M.map nmOf := List.map_flatMap
  have e4 : sumQ K = sumQ M := by
    unfold sumQ
    rw [e1, e2, e3]
    exact (t.perm.map f).sum_nat
  have e5 : idsM M = Ts.flatMap fun b => idsM b.M := by
    unfold idsM
    exact List.flatMap_assoc
  have h1 := lent_len s.is.pool.ok
  rw [e4, ← sumQ_ids, e5, s.ids.length_eq]
  exact h1
theorem TSt.vq (s : TSt h tb bw bp bl c vb heads N Ts W wc F B) {K : List HE} (t : NamesOf Ts K) {e : HE} (he : e ∈ K) : VQ e.Q e.w ∧ stuckQ e.Q ∧ e.Q.length ≤ 128 ∧ e.w ≤ N ∧ ∃ k : Nat, strN e.t e.r c.S = (k : Int) ∧ k < Ts.length := by
  obtain ⟨b, hb, f, hf, se⟩ := t.each e he
  have gf := (s.is.bk b hb).good f hf
  have wb := s.wb b hb f hf
  obtain ⟨j, hj⟩ := List.getElem?_of_mem hb
  have := s.nm j b hj f hf
  rw [← se.1, ← se.2.1] at this
  rw [se.2.2.1, se.2.2.2]
  exact ⟨gf.vq, gf.stuck, gf.small, wb, j, this, (List.getElem?_eq_some_iff.1 hj).1⟩
/-- two that hold a name are compatible -/
theorem held_cm {K : List HE} (hs : (K.map nmOf).Pairwise ltN) (hv : ∀ k ∈ K, k.Q.Pairwise Beside) {a b : L4} (ha : a ∈ K.flatMap heldE) (hb : b ∈ K.flatMap heldE) (hne : a ≠ b) (ht : a.t = b.t) (hr : a.r = b.r) : cmp a.m b.m = true := by
  obtain ⟨e, he, ha⟩ := List.mem_flatMap.1 ha
  obtain ⟨f, hf, hb⟩ := List.mem_flatMap.1 hb
  obtain ⟨p, hp, pm, rfl⟩ := heldE_mem ha
  obtain ⟨q, hq, qm, rfl⟩ := heldE_mem hb
  have hef : e = f := by
    rw [List.pairwise_map] at hs
    obtain ⟨i, hi⟩ := List.getElem?_of_mem he
    obtain ⟨j, hj⟩ := List.getElem?_of_mem hf
    have ht : e.t = f.t := ht
    have hr : e.r = f.r := hr
    rcases Nat.lt_trichotomy i j with h | h | h
    · have := pw_get.1 hs i j e f h hi hj
      unfold ltN nmOf at this; simp only at this; omega
    · subst h; rw [hi] at hj; exact Option.some.inj hj
    · have := pw_get.1 hs j i f e h hj hi
      unfold ltN nmOf at this; simp only at this; omega
  subst hef
  show cmp p.m q.m = true
  obtain ⟨i, hi⟩ := List.getElem?_of_mem hp
  obtain ⟨j, hj⟩ := List.getElem?_of_mem hq
  rcases Nat.lt_trichotomy i j with h | h | h
  · exact (pw_get.1 (hv e he) i j p q h hi hj).cm pm qm
  · subst h; rw [hi] at hj; cases hj; exact absurd rfl hne
  · rw [cmp_symm]; exact (pw_get.1 (hv e he) j i q p h hj hi).cm qm pm
theorem held_nodup {K : List HE} (hs : (K.map nmOf).Pairwise ltN) (hv : ∀ k ∈ K, k.Q.Pairwise Beside) : (K.flatMap heldE).Nodup := by
  rw [List.Nodup, List.pairwise_flatMap]
  constructor
  · intro e he
    unfold heldE heldQ
    rw [List.pairwise_map]
    exact ((hv e he).filter _).imp fun hb e => hb.x (congrArg L4.x e)
  · rw [List.pairwise_map] at hs
    refine hs.imp fun {e f} hlt x hx y hy hxy => ?_
    obtain ⟨p, _, _, rfl⟩ := heldE_mem hx
    obtain ⟨q, _, _, rfl⟩ := heldE_mem hy
    have h1 : e.t = f.t := congrArg L4.t hxy
    have h2 : e.r = f.r := congrArg L4.r hxy
    unfold ltN nmOf at hlt; simp only at hlt; omega
/-- all that hold are told in order, each once -/
theorem ATold.lt (s : TSt h tb bw bp bl c vb heads N Ts W wc F B) {h' : Heap} {v : Value} {D : List L4} {K : List HE} (t : ATold h' Ts v D K) {i j : Nat} {a b : L4} (hij : i < j) (ha : D[i]? = some a) (hb : D[j]? = some b) : ltL a b ∧ a ≠ b := by
  have hn := (t.perm.nodup_iff).2 (held_nodup t.srtK (t.of.pair s))
  have hne : a ≠ b := pw_get.1 hn i j a b hij ha hb
  refine ⟨?_, hne⟩
  by_cases h1 : ltL a b
  · exact h1
  · obtain ⟨k1, k2, k3⟩ := ltL_tri h1 (pw_get.1 t.srt i j a b hij ha hb)
    exact absurd (held_key t.srtK (t.of.pair s) (t.perm.mem_iff.1 (List.mem_of_getElem? ha)) (t.perm.mem_iff.1 (List.mem_of_getElem? hb)) k1 k2 k3) hne
theorem sumM_names (s : TSt h tb bw bp bl c vb heads N Ts W wc F B) {K : List HE} (t : NamesOf Ts K) : sumM Ts = K.length := by
  have := t.perm.length_eq
  rw [List.length_map, List.length_flatMap] at this
  rw [this]
  unfold sumM
  congr 1
  exact List.map_congr_left fun b _ => by simp
theorem ltL_irr {a : L4} : ¬ ltL a a := by unfold ltL ltN; simp only; omega
end
end Go.Proofs
