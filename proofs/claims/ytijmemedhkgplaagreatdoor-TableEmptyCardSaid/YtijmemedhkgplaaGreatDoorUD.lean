/-
  PROVED HERE: a part of the proof, by a calculus of weakest conditions over an abstract heap (U18, U22, U23, U24, U25).
-/
import Derived.Test.YtijmemedhkgplaaGreatDoorUC
set_option linter.unusedVariables false
set_option linter.unusedSimpArgs false
set_option maxRecDepth 100000
set_option maxHeartbeats 4000000
set_option maxHeartbeats 8000000
namespace Go.Proofs
open Go.Vai Go.Clashes
/-! ## the parts of TableHolds -/
theorem rCompareN_w (t r t' r' : Int) (h : Heap) (κ : Value → Heap → Prop) (hlt : ltN (t, r) (t', r')) (hk : ∀ h', Le h h' → κ (.int .i64 (-1)) h') :
    CallW Tryz.prog 23 [nmV t r, nmV t' r'] h κ := by
  unfold ltN at hlt
  simp only at hlt
  refine callW_of mixed ?_
  rw [rs_23]
  by_cases h1 : t < t'
  · simp (disch := first | omega | (simp only [Wx]; done) | (simp only [Wy]; done) | (simp only [Wv]; omega) | with_unfolding_all rfl) only [Wz, ptrTo, sliceTo, nmV, lt_t h1]
    exact hk _ (((Le.refl h).new _).new _)
  · have h2 : t = t' ∧ r < r' := by omega
    simp (disch := first | omega | (simp only [Wx]; done) | (simp only [Wy]; done) | (simp only [Wv]; omega) | with_unfolding_all rfl) only [Wz, ptrTo, sliceTo, nmV, lt_f (show t' ≤ t by omega), dec_t h2.1, lt_t h2.2]
    exact hk _ (((Le.refl h).new _).new _)
/-- how many of these heads stand in stripe k -/
def cntS (S : Int) (L : List (Int × Int)) (k : Nat) : Nat := L.countP fun n => decide (strN n.1 n.2 S = (k : Int))
def manyL (S : Int) (n : Nat) (L : List (Int × Int)) : List Int := (List.range n).map fun k => (cntS S L k : Int)
theorem manyL_len (S : Int) (n : Nat) (L : List (Int × Int)) : (manyL S n L).length = n := by unfold manyL; simp
theorem manyL_get {S : Int} {n : Nat} {L : List (Int × Int)} {k : Nat} (hk : k < n) : (manyL S n L)[k]? = some (cntS S L k : Int) := by
  unfold manyL
  rw [List.getElem?_map, List.getElem?_range hk]; rfl
theorem manyL_nil (S : Int) (n : Nat) : manyL S n [] = List.replicate n 0 := by
  refine List.ext_getElem? fun i => ?_
  by_cases hi : i < n
  · rw [manyL_get hi, List.getElem?_replicate, if_pos hi]; rfl
  · rw [List.getElem?_eq_none (by rw [manyL_len]; omega), List.getElem?_eq_none (by simp; omega)]
theorem manyL_set {S : Int} {n : Nat} {L : List (Int × Int)} {x : Int × Int} {k : Nat} (hx : strN x.1 x.2 S = (k : Int)) (hk : k < n) : (manyL S n L).set k ((cntS S L k : Int) + 1) = manyL S n (L ++ [x]) := by
  refine List.ext_getElem? fun i => ?_
  by_cases hi : i < n
  · rw [manyL_get hi, List.getElem?_set, manyL_len]
    by_cases hik : k = i
    · subst hik
      rw [if_pos rfl, if_pos hi]
      unfold cntS
      rw [List.countP_append, List.countP_cons_of_pos (by simpa using hx)]
      simp
    · rw [if_neg hik, manyL_get hi]
      unfold cntS
      rw [List.countP_append, List.countP_cons_of_neg (by rw [hx]; simp; omega)]
      simp
  · rw [List.getElem?_eq_none (by rw [List.length_set, manyL_len]; omega), List.getElem?_eq_none (by rw [manyL_len]; omega)]
theorem over_ints {B : List Int} {n : Nat} {b : Int} (h : n < B.length) : over (B.map fun x => Value.int .i64 x) n [.int .i64 b] = (B.set n b).map fun x => Value.int .i64 x := by
  unfold over
  rw [List.set_eq_take_append_cons_drop, if_pos h]
  simp [List.map_take, List.map_drop]
theorem repeat_int (n : Nat) : repeatL [Value.int .i64 0] n = (List.replicate n (0 : Int)).map fun x => Value.int .i64 x := by
  induction n with
  | zero => rfl
  | succ n ih => rw [List.replicate_succ, List.map_cons, ← ih]; rfl
theorem cnt_le {S : Int} {H k : Nat} : ∀ (L : List TB) (off : Nat), (∀ (j : Nat) (b : TB), L[j]? = some b → ∀ e ∈ b.M, strN e.t e.r S = ((off + j : Nat) : Int)) → (∀ b ∈ L, b.M.length ≤ H) → cntS S (L.flatMap fun b => b.M.map nmOf) k ≤ H := by
  intro L
  induction L with
  | nil => intro _ _ _; exact Nat.zero_le _
  | cons b L ih =>
    intro off hs hl
    have hb : ∀ e ∈ b.M, strN e.t e.r S = (off : Int) := fun e he => by have := hs 0 b rfl e he; rwa [Nat.add_zero] at this
    have hL : ∀ (j : Nat) (b : TB), L[j]? = some b → ∀ e ∈ b.M, strN e.t e.r S = ((off + 1 + j : Nat) : Int) := fun j b' hj e he => by
      have := hs (j + 1) b' hj e he
      rw [this]; congr 1; omega
    unfold cntS
    rw [List.flatMap_cons, List.countP_append]
    by_cases hk : off = k
    · have h0 : (L.flatMap fun b => b.M.map nmOf).countP (fun n => decide (strN n.1 n.2 S = (k : Int))) = 0 := by
        rw [List.countP_eq_zero]
        intro n hn
        obtain ⟨b', hb', hn⟩ := List.mem_flatMap.1 hn
        obtain ⟨e, he, rfl⟩ := List.mem_map.1 hn
        obtain ⟨j, hj⟩ := List.getElem?_of_mem hb'
        have := hL j b' hj e he
        show ¬ decide (strN e.t e.r S = (k : Int)) = true
        rw [this]; simp; omega
      have h1 := List.countP_le_length (p := fun n : Int × Int => decide (strN n.1 n.2 S = (k : Int))) (l := b.M.map nmOf)
      rw [List.length_map] at h1
      have := hl b (.head _)
      omega
    · have h0 : (b.M.map nmOf).countP (fun n => decide (strN n.1 n.2 S = (k : Int))) = 0 := by
        rw [List.countP_eq_zero]
        intro n hn
        obtain ⟨e, he, rfl⟩ := List.mem_map.1 hn
        have := hb e he
        show ¬ decide (strN e.t e.r S = (k : Int)) = true
        rw [this]; simp; omega
      have := ih (off + 1) hL fun x hx => hl x (.tail _ hx)
      unfold cntS at this
      omega
section
variable {h : Heap} {tb bw bp bl : Nat} {c : Caps} {vb : Value} {heads N : Nat} {Ts : List TB} {W : List IE} {wc : Nat} {F : List Int} {B : List Bool}
theorem TSt.cnt (s : TSt h tb bw bp bl c vb heads N Ts W wc F B) {K : List HE} (t : NamesOf Ts K) (k : Nat) : cntS c.S (K.map nmOf) k ≤ heads := by
  unfold cntS
  rw [t.perm.countP_eq]
  refine cnt_le Ts 0 (fun j b hj e he => ?_) s.len
  rw [s.nm j b hj e he]; congr 1; omega
theorem TSt.sum (s : TSt h tb bw bp bl c vb heads N Ts W wc F B) {K : List HE} (t : NamesOf Ts K) : sumQ K + F.length = B.length := by
  let M := Ts.flatMap fun b => b.M
  let f : Int × Int → Nat := fun n => ((M.find? fun e => decide (nmOf e = n)).map fun e => e.Q.length).getD 0
  have hM : ∀ e ∈ M, f (nmOf e) = e.Q.length := by
    intro e he
    show ((M.find? fun x => decide (nmOf x = nmOf e)).map fun e => e.Q.length).getD 0 = _
    cases hf : M.find? fun x => decide (nmOf x = nmOf e) with
    | none =>
      rw [List.find?_eq_none] at hf
      have := hf e he
      simp at this
    | some x =>
      have h1 := List.find?_some hf
      have h2 := List.mem_of_find?_eq_some hf
      have h3 : nmOf x = nmOf e := by simpa using h1
      obtain ⟨b1, hb1, hx⟩ := List.mem_flatMap.1 h2
      obtain ⟨b2, hb2, hy⟩ := List.mem_flatMap.1 he
      rw [s.uniq hb1 hb2 hx hy (congrArg Prod.fst h3) (congrArg Prod.snd h3)]; rfl
  have hK : ∀ k ∈ K, f (nmOf k) = k.Q.length := by
    intro k hk
    obtain ⟨b, hb, e, he, se⟩ := t.each k hk
    have : nmOf k = nmOf e := Prod.ext se.1 se.2.1
    rw [this, hM e (List.mem_flatMap.2 ⟨b, hb, he⟩), se.2.2.2]
  have e1 : K.map (fun e => e.Q.length) = (K.map nmOf).map f := by
    rw [List.map_map]; exact List.map_congr_left fun k hk => (hK k hk).symm
  have e2 : M.map (fun e => e.Q.length) = (M.map nmOf).map f := by
    rw [List.map_map]; exact List.map_congr_left fun k hk => (hM k hk).symm
  have e3 : M.map nmOf = Ts.flatMap fun b => b.M.map nmOf := List.map_flatMap
  have e4 : sumQ K = sumQ M := by
    unfold sumQ
    rw [e1, e2, e3]
    exact (t.perm.map f).sum_nat
  have e5 : idsM M = Ts.flatMap fun b => idsM b.M := by
    unfold idsM
    exact List.flatMap_assoc
  have h1 := lent_len s.is.pool.ok
  rw [e4, ← sumQ_ids, e5, s.ids.length_eq]
  exact h1
theorem TSt.vq (s : TSt h tb bw bp bl c vb heads N Ts W wc F B) {K : List HE} (t : NamesOf Ts K) {e : HE} (he : e ∈ K) : VQ e.Q e.w ∧ stuckQ e.Q ∧ e.Q.length ≤ 128 ∧ e.w ≤ N ∧ ∃ k : Nat, strN e.t e.r c.S = (k : Int) ∧ k < Ts.length := by
  obtain ⟨b, hb, f, hf, se⟩ := t.each e he
  have gf := (s.is.bk b hb).good f hf
  have wb := s.wb b hb f hf
  obtain ⟨j, hj⟩ := List.getElem?_of_mem hb
  have := s.nm j b hj f hf
  rw [← se.1, ← se.2.1] at this
  rw [se.2.2.1, se.2.2.2]
  exact ⟨gf.vq, gf.stuck, gf.small, wb, j, this, (List.getElem?_eq_some_iff.1 hj).1⟩
/-- two that hold a name are compatible -/
theorem held_cm {K : List HE} (hs : (K.map nmOf).Pairwise ltN) (hv : ∀ k ∈ K, k.Q.Pairwise Beside) {a b : L4} (ha : a ∈ K.flatMap heldE) (hb : b ∈ K.flatMap heldE) (hne : a ≠ b) (ht : a.t = b.t) (hr : a.r = b.r) : cmp a.m b.m = true := by
  obtain ⟨e, he, ha⟩ := List.mem_flatMap.1 ha
  obtain ⟨f, hf, hb⟩ := List.mem_flatMap.1 hb
  obtain ⟨p, hp, pm, rfl⟩ := heldE_mem ha
  obtain ⟨q, hq, qm, rfl⟩ := heldE_mem hb
  have hef : e = f := by
    rw [List.pairwise_map] at hs
    obtain ⟨i, hi⟩ := List.getElem?_of_mem he
    obtain ⟨j, hj⟩ := List.getElem?_of_mem hf
    have ht : e.t = f.t := ht
    have hr : e.r = f.r := hr
    rcases Nat.lt_trichotomy i j with h | h | h
    · have := pw_get.1 hs i j e f h hi hj
      unfold ltN nmOf at this; simp only at this; omega
    · subst h; rw [hi] at hj; exact Option.some.inj hj
    · have := pw_get.1 hs j i f e h hj hi
      unfold ltN nmOf at this; simp only at this; omega
  subst hef
  show cmp p.m q.m = true
  obtain ⟨i, hi⟩ := List.getElem?_of_mem hp
  obtain ⟨j, hj⟩ := List.getElem?_of_mem hq
  rcases Nat.lt_trichotomy i j with h | h | h
  · exact (pw_get.1 (hv e he) i j p q h hi hj).cm pm qm
  · subst h; rw [hi] at hj; cases hj; exact absurd rfl hne
  · rw [cmp_symm]; exact (pw_get.1 (hv e he) j i q p h hj hi).cm qm pm
theorem held_nodup {K : List HE} (hs : (K.map nmOf).Pairwise ltN) (hv : ∀ k ∈ K, k.Q.Pairwise Beside) : (K.flatMap heldE).Nodup := by
  rw [List.Nodup, List.pairwise_flatMap]
  constructor
  · intro e he
    unfold heldE heldQ
    rw [List.pairwise_map]
    exact ((hv e he).filter _).imp fun hb e => hb.x (congrArg L4.x e)
  · rw [List.pairwise_map] at hs
    refine hs.imp fun {e f} hlt x hx y hy hxy => ?_
    obtain ⟨p, _, _, rfl⟩ := heldE_mem hx
    obtain ⟨q, _, _, rfl⟩ := heldE_mem hy
    have h1 : e.t = f.t := congrArg L4.t hxy
    have h2 : e.r = f.r := congrArg L4.r hxy
    unfold ltN nmOf at hlt; simp only at hlt; omega
/-- all that hold are told in order, each once -/
theorem ATold.lt (s : TSt h tb bw bp bl c vb heads N Ts W wc F B) {h' : Heap} {v : Value} {D : List L4} {K : List HE} (t : ATold h' Ts v D K) {i j : Nat} {a b : L4} (hij : i < j) (ha : D[i]? = some a) (hb : D[j]? = some b) : ltL a b ∧ a ≠ b := by
  have hn := (t.perm.nodup_iff).2 (held_nodup t.srtK (t.of.pair s))
  have hne : a ≠ b := pw_get.1 hn i j a b hij ha hb
  refine ⟨?_, hne⟩
  by_cases h1 : ltL a b
  · exact h1
  · obtain ⟨k1, k2, k3⟩ := ltL_tri h1 (pw_get.1 t.srt i j a b hij ha hb)
    exact absurd (held_key t.srtK (t.of.pair s) (t.perm.mem_iff.1 (List.mem_of_getElem? ha)) (t.perm.mem_iff.1 (List.mem_of_getElem? hb)) k1 k2 k3) hne
theorem sumM_names (s : TSt h tb bw bp bl c vb heads N Ts W wc F B) {K : List HE} (t : NamesOf Ts K) : sumM Ts = K.length := by
  have := t.perm.length_eq
  rw [List.length_map, List.length_flatMap] at this
  rw [this]
  unfold sumM
  congr 1
  exact List.map_congr_left fun b _ => by simp
theorem ltL_irr {a : L4} : ¬ ltL a a := by unfold ltL ltN; simp only; omega
end
end Go.Proofs

namespace Go.Proofs
open Go.Vai Go.Clashes
/-! ## the parts of TableEmpty -/
theorem idsM_take {K : List HE} {i : Nat} {e : HE} (h : K[i]? = some e) : idsM (K.take (i + 1)) = idsM (K.take i) ++ e.Q.map (·.id) := by
  unfold idsM; exact flat_take (fun e : HE => e.Q.map fun p : R5 => p.id) h
theorem map_take {Q : List R5} {j : Nat} {p : R5} (h : Q[j]? = some p) : (Q.take (j + 1)).map (·.id) = (Q.take j).map (·.id) ++ [p.id] := by
  rw [List.take_add_one, h, List.map_append]; rfl
theorem lent_left {B : List Bool} {n : Nat} {rest : List Int} (hb : B[n]? = some true) (hp : (lentL B).Perm ((n : Int) :: rest)) : (lentL (B.set n false)).Perm rest := by
  have h1 := lent_give hb
  have h2 : ((n : Int) :: rest).Perm ((n : Int) :: lentL (B.set n false)) := (hp.symm.trans h1).trans (List.perm_append_singleton _ _)
  exact (List.Perm.cons_inv h2).symm
def rotI (p : Nat) (L : List Int) : List Int := L.drop p ++ L.take p
theorem rotI_len (p : Nat) (L : List Int) : (rotI p L).length = L.length := by
  unfold rotI; rw [List.length_append, List.length_drop, List.length_take]; omega
theorem rotI_perm (p : Nat) (L : List Int) : (rotI p L).Perm L := by
  unfold rotI
  refine List.perm_append_comm.trans ?_
  rw [List.take_append_drop]
theorem rotI_get {p i : Nat} {L : List Int} (hp : p < L.length) (hi : i < L.length) : L[(i + p) % L.length]? = (rotI p L)[i]? := by
  unfold rotI
  by_cases h : i + p < L.length
  · rw [Nat.mod_eq_of_lt h, List.getElem?_append_left (by rw [List.length_drop]; omega), List.getElem?_drop, Nat.add_comm]
  · have e : (i + p) % L.length = i + p - L.length := by
      rw [Nat.mod_eq_sub_mod (by omega), Nat.mod_eq_of_lt (by omega)]
    rw [e, List.getElem?_append_right (by rw [List.length_drop]; omega), List.length_drop, List.getElem?_take, if_pos (by omega)]
    congr 1; omega
theorem mod_int {a b : Nat} : Int.tmod (a : Int) (b : Int) = ((a % b : Nat) : Int) := by
  rw [Int.tmod_eq_emod_of_nonneg (by omega)]; rfl
section
variable {h : Heap} {tb bw bp bl : Nat} {c : Caps} {vb : Value} {heads N : Nat} {Ts : List TB} {W : List IE} {wc : Nat} {F : List Int} {B : List Bool}
theorem TSt.idsPerm (s : TSt h tb bw bp bl c vb heads N Ts W wc F B) {K : List HE} (t : NamesOf Ts K) : (idsM K).Perm (lentL B) := by
  let M := Ts.flatMap fun b => b.M
  let f : Int × Int → List Int := fun n => ((M.find? fun e => decide (nmOf e = n)).map fun e => e.Q.map (·.id)).getD []
  have hM : ∀ e ∈ M, f (nmOf e) = e.Q.map (·.id) := by
    intro e he
    show ((M.find? fun x => decide (nmOf x = nmOf e)).map fun e => e.Q.map (·.id)).getD [] = _
    cases hf : M.find? fun x => decide (nmOf x = nmOf e) with
    | none =>
      rw [List.find?_eq_none] at hf
      have := hf e he
      simp at this
    | some x =>
      have h1 := List.find?_some hf
      have h2 := List.mem_of_find?_eq_some hf
      have h3 : nmOf x = nmOf e := by simpa using h1
      obtain ⟨b1, hb1, hx⟩ := List.mem_flatMap.1 h2
      obtain ⟨b2, hb2, hy⟩ := List.mem_flatMap.1 he
      rw [s.uniq hb1 hb2 hx hy (congrArg Prod.fst h3) (congrArg Prod.snd h3)]; rfl
  have hK : ∀ k ∈ K, f (nmOf k) = k.Q.map (·.id) := by
    intro k hk
    obtain ⟨b, hb, e, he, se⟩ := t.each k hk
    have : nmOf k = nmOf e := Prod.ext se.1 se.2.1
    rw [this, hM e (List.mem_flatMap.2 ⟨b, hb, he⟩), se.2.2.2]
  have e1 : idsM K = (K.map nmOf).flatMap f := by
    unfold idsM
    rw [List.flatMap_map, List.flatMap_def, List.flatMap_def]
    congr 1
    exact List.map_congr_left fun k hk => (hK k hk).symm
  have e2 : idsM M = (M.map nmOf).flatMap f := by
    unfold idsM
    rw [List.flatMap_map, List.flatMap_def, List.flatMap_def]
    congr 1
    exact List.map_congr_left fun k hk => (hM k hk).symm
  have e3 : M.map nmOf = Ts.flatMap fun b => b.M.map nmOf := List.map_flatMap
  have e5 : idsM M = Ts.flatMap fun b => idsM b.M := by
    unfold idsM
    exact List.flatMap_assoc
  rw [e1]
  refine (t.perm.flatMap_right f).trans ?_
  rw [← e3, ← e2, e5]
  exact s.ids
/-- an id that is lent is found -/
theorem TSt.lent (s : TSt h tb bw bp bl c vb heads N Ts W wc F B) {x : Int} : x ∈ lentL B ↔ ∃ b ∈ Ts, ∃ e ∈ b.M, ∃ p ∈ e.Q, p.id = x := by
  rw [← s.ids.mem_iff]
  unfold idsM
  constructor
  · intro hx
    obtain ⟨b, hb, hx⟩ := List.mem_flatMap.1 hx
    obtain ⟨e, he, hx⟩ := List.mem_flatMap.1 hx
    obtain ⟨p, hp, rfl⟩ := List.mem_map.1 hx
    exact ⟨b, hb, e, he, p, hp, rfl⟩
  · rintro ⟨b, hb, e, he, p, hp, rfl⟩
    exact List.mem_flatMap.2 ⟨b, hb, List.mem_flatMap.2 ⟨e, he, List.mem_map.2 ⟨p, hp, rfl⟩⟩⟩
theorem TSt.names_nil (s : TSt h tb bw bp bl c vb heads N Ts W wc F B) (hn : lentL B = []) : ∀ b ∈ Ts, b.M = [] := by
  intro b hb
  cases hM : b.M with
  | nil => rfl
  | cons e M =>
    have he : e ∈ b.M := by rw [hM]; exact .head _
    have hne := ((s.is.bk b hb).good e he).ne
    cases hQ : e.Q with
    | nil => exact absurd hQ hne
    | cons p Q =>
      have := s.lent.2 ⟨b, hb, e, he, p, by rw [hQ]; exact .head _, rfl⟩
      rw [hn] at this; cases this
end
/-- one id is appended -/
theorem empty0 {h3 h : Heap} {Ts : List TB} {v20 : Value} {K : List HE} (t : TTold h3 Ts v20 K) (hlo3 : h3.lo ≤ h3.nx) (le : Le h3 h) {i j : Nat} {e : HE} (he : K[i]? = some e) (hK : K.length ≤ 1024) (hQ : ∀ k ∈ K, k.Q.length ≤ 128) {l22 l26 : List Value} (ho : OwnI h3 h (slot l26 20) (idsM (K.take i) ++ (e.Q.take j).map (·.id))) (hb : (idsM (K.take i)).length ≤ 131072)
    (s30 : slot l22 30 = .int .i64 (i : Int)) (s23 : slot l26 23 = .int .i64 (j : Int)) (hj : j ≤ e.Q.length) (N25 N21 : List Value → Heap → Prop) (v23 v24 : Value)
    (hN25 : j < e.Q.length → ∀ l h', slot l 23 = .int .i64 ((j + 1 : Nat) : Int) → OwnI h3 h' (slot l 20) (idsM (K.take i) ++ (e.Q.take (j + 1)).map (·.id)) → Le h3 h' → N25 l h')
    (hN21 : j = e.Q.length → ∀ l, slot l 30 = .int .i64 ((i + 1 : Nat) : Int) → slot l 24 = slot l26 20 → N21 l h) :
    rs_6_1 v20 l22 l26 N25 N21 v23 v24 h := by
  unfold rs_6_1
  have n0 := le.nx
  have l0 := le.lo
  have heK := List.mem_of_getElem? he
  have qv := (t.each e heK).2
  have hq := hQ e heK
  have hi := (List.getElem?_eq_some_iff.1 he).1
  obtain ⟨b6, o6, hb6, hx6, hr6⟩ := ldHs t.sl i he (slV_sl qv.1)
  have R0 := hr6 h le
  have q0 := qv.1.le le
  obtain ⟨qx, qc, eqq, _⟩ := (show Sl enc5 h e.q e.Q from q0)
  by_cases hjl : j < e.Q.length
  · obtain ⟨p, hp⟩ : ∃ p, e.Q[j]? = some p := ⟨_, List.getElem?_eq_getElem hjl⟩
    obtain ⟨b11, o11, hb11, hx11, hp11⟩ := ld5 q0 j hp
    have htl2 : (e.Q.take j).length ≤ e.Q.length := by rw [List.length_take]; omega
    simp (maxSteps := 3000000) (disch := first | omega | (simp only [Wx]; done) | (simp only [Wy]; done) | (simp only [Wv]; omega) | with_unfolding_all rfl) only [Wz, ptrTo, sliceTo, s30, hx6, R0, q0.len, s23, lt_t (show (j : Int) < (e.Q.length : Int) by omega), rs_6_0, hx11, hp11]
    have hle1 : Le h ⟨h.nx + 1, h.bl.upd h.nx (cellsO [.int .i64 p.id] 3 false), h.lo⟩ := (Le.refl h).new _
    refine append_in (enc := encNum) (a := h3) (L := idsM (K.take i) ++ (e.Q.take j).map (·.id)) (M := [p.id]) encNum_len encNum_one (by decide) (by decide) (ho.le hle1) (Sl.new (L := [p.id]) (e := 3) (op := false) (Nat.lt_succ_self _) (T.get_upd_same _ _ _) _) (le.trans hle1) (by simp; omega) (by show h.lo ≤ h.nx + 1; omega) _ ?_
    intro v' h' ho' le' _ _ _ _
    refine hN25 hjl _ _ rfl ?_ le'
    rw [map_take hp, ← List.append_assoc]
    exact ho'
  · simp (maxSteps := 3000000) (disch := first | omega | (simp only [Wx]; done) | (simp only [Wy]; done) | (simp only [Wv]; omega) | with_unfolding_all rfl) only [Wz, ptrTo, sliceTo, s30, hx6, R0, q0.len, s23, lt_f (show (e.Q.length : Int) ≤ (j : Int) by omega)]
    exact hN21 (by omega) _ rfl rfl
end Go.Proofs

namespace Go.Proofs
open Go.Vai Go.Clashes
/-- the ids, still there: an open block that is not the pool's -/
def IdsAt (h : Heap) (bp : Nat) (v : Value) (L : List Int) : Prop :=
  ∃ b cap, v = .slice (some ⟨b, 0, none⟩) L.length cap ∧ b < h.nx ∧ h.bl.get b = some (cellsO (L.flatMap encNum) 3 true) ∧ ¬ FB h bp b ∧ bp < h.nx
theorem IdsAt.le {h h' : Heap} {bp : Nat} {v : Value} {L : List Int} (a : IdsAt h bp v L) (l : Le h h') : IdsAt h' bp v L := by
  obtain ⟨b, cap, e, h1, h2, h3, h4⟩ := a
  exact ⟨b, cap, e, Nat.lt_of_lt_of_le h1 l.nx, (l.get _ h1).trans h2, fun x => h3 ((FB.congr (l.get _ h4)).1 x), Nat.lt_of_lt_of_le h4 l.nx⟩
section
variable {h : Heap} {tb bw bp bl : Nat} {c : Caps} {vb : Value} {heads N : Nat} {Ts : List TB} {W : List IE} {wc : Nat} {F : List Int} {B : List Bool}
theorem IdsAt.fr {h' : Heap} {v : Value} {L : List Int} (a : IdsAt h bp v L) (s : TableIs h tb bw bp bl c vb heads Ts W wc F B) (f : FrT Ts bw bp bl h h') : IdsAt h' bp v L := by
  obtain ⟨b, cap, e, h1, h2, h3, h4⟩ := a
  refine ⟨b, cap, e, Nat.lt_of_lt_of_le h1 f.nx, ?_, fun x => h3 (f.mv h4 b h1 x), Nat.lt_of_lt_of_le h4 f.nx⟩
  obtain ⟨fs, hgp, hpt⟩ := s.pool.fr.cell
  have gl := s.pool.cell
  have gw := s.cellw
  refine (f.g2 h4 b h1 (fun x hx => ?_) (by rintro rfl; rw [h2] at gw; exact cells_map gw.symm) (by rintro rfl; rw [h2] at hgp; exact cells_op hgp.symm) (by rintro rfl; rw [h2] at gl; exact cells_op gl.symm) h3).trans h2
  rintro rfl
  have gm := (s.bk x hx).cellm
  rw [h2] at gm
  exact cells_map gm.symm
/-- one that was granted is looked at -/
theorem empty2 {h0 : Heap} (s : TSt h tb bw bp bl c vb heads N Ts W wc F B) (hlo : h.lo ≤ h.nx) {v54 : Value} {G : List Int} (ho : OwnI h0 h v54 G) (hG : ∀ g ∈ G, ∃ b ∈ Ts, ∃ e ∈ b.M, ∃ r ∈ e.Q, r.id = g ∧ r.m ≠ 0 ∧ r.s = 0)
    {h' : Heap} (le : Le h h') {l58 : List Value} {k : Nat} (s32 : slot l58 32 = .int .i64 (k : Int)) (hk : k < G.length) (hGl : G.length ≤ 100000) (N57 : List Value → Heap → Prop) (v59 v60 : Value) (κ : Value → Heap → Prop)
    (hN : ∀ l h', slot l 32 = .int .i64 ((k + 1 : Nat) : Int) → Le h h' → N57 l h') :
    rs_6_2 v54 l58 (.pointer (some ⟨tb, 0, none⟩)) N57 v59 v60 h' κ := by
  unfold rs_6_2
  have n0 := le.nx
  have l0 := le.lo
  obtain ⟨g, hg⟩ : ∃ g, G[k]? = some g := ⟨_, List.getElem?_eq_getElem hk⟩
  have sl := ho.sl.le le
  obtain ⟨b1, o1, hb1, hx1, _, hh1⟩ := sl.ld encNum_len k hg
  have r1 : ∀ (β : Type) (fl : β) (κ : Value → β), ldO fl (h'.bl.get b1) o1 κ = κ (.int .i64 g) := fun β fl κ => ldO_has (fl := fl) hh1 0 κ (by show 0 < 1; omega)
  obtain ⟨b, hb, e, he, r, hr, hid, hm, hs⟩ := hG g (List.mem_of_getElem? hg)
  have s' := s.le le
  have gf := (s'.is.bk b hb).good e he
  have hfr := findQ_mem gf.vq.pair hr
  rw [hid] at hfr
  simp (maxSteps := 3000000) (disch := first | omega | (simp only [Wx]; done) | (simp only [Wy]; done) | (simp only [Wv]; omega) | with_unfolding_all rfl) only [Wz, ptrTo, sliceTo, s32, hx1, r1]
  refine tGet_w s' (by omega) g _ ?_ ?_
  · intro h2 hno _
    rw [hno b hb e he] at hfr; cases hfr
  · intro h2 b2 e2 p2 hb2 he2 hf2 le2
    obtain ⟨kb, hkb⟩ := List.getElem?_of_mem hb
    obtain ⟨kb2, hkb2⟩ := List.getElem?_of_mem hb2
    obtain ⟨_, _, hee⟩ := s'.idUniq hkb2 hkb he2 he (findQ_some hf2).1 hr (by rw [(findQ_some hf2).2, hid])
    subst hee
    rw [hfr] at hf2
    cases hf2
    have n2 := le2.nx
    have l2 := le2.lo
    simp (maxSteps := 3000000) (disch := first | omega | (simp only [Wx]; done) | (simp only [Wy]; done) | (simp only [Wv]; omega) | with_unfolding_all rfl) only [Wz, ptrTo, sliceTo, nmV, aggR, enc5, dec_f hm, dec_t hs, s32]
    exact hN _ _ rfl ((le.trans le2).trans (((((Le.refl h2).new _).new _).set (b := h2.nx) (Nat.le_refl _) _).set (b := h2.nx + 1) (by omega) _))
/-- what was left is not found, and the count is one less -/
theorem empty3 (s : TSt h tb bw bp bl c vb heads N Ts W wc F B) (hlo : h.lo ≤ h.nx) {id : Int} (hid : id ∉ lentL B) {n i : Nat} (hn : (lentL B).length = n - i - 1) (hi : i < n) (hn0 : n ≤ 1000) {l46 : List Value} (s85 : slot l46 85 = .int .i64 (i : Int)) (N45 : List Value → Heap → Prop) (v47 : Value) (l22 : List Value) (a2 v48 v49 v50 v51 v53 v54 v55 v56 : Value) (l58 : List Value) (v59 v60 : Value) (κ : Value → Heap → Prop)
    (hN : ∀ l h', slot l 85 = .int .i64 ((i + 1 : Nat) : Int) → Le h h' → N45 l h') :
    rs_6_3 (.pointer (some ⟨tb, 0, none⟩)) (.int .i64 id) (.int .i64 (n : Int)) l46 N45 v47 l22 a2 v48 v49 v50 v51 v53 v54 v55 v56 l58 v59 v60 h κ := by
  unfold rs_6_3
  have hlen := lent_len s.is.pool.ok
  refine tGet_w s hlo id _ ?_ ?_
  · intro h2 hno le2
    have n2 := le2.nx
    have l2 := le2.lo
    simp (maxSteps := 3000000) (disch := first | omega | (simp only [Wx]; done) | (simp only [Wy]; done) | (simp only [Wv]; omega) | with_unfolding_all rfl) only [Wz, ptrTo, sliceTo, nmV, aggR, enc5]
    obtain ⟨h3, e3⟩ : ∃ h3 : Heap, h3 = ⟨h2.nx + 1 + 1, (((h2.bl.upd h2.nx (cellsO [.int .i64 0, .int .i64 0] 24 false)).upd (h2.nx + 1) (blkR ⟨0, 0, 0, 0, 0⟩)).upd h2.nx (cellsO [.int .i64 0, .int .i64 0] 24 false)).upd (h2.nx + 1) (cellsO [.int .i64 0, .int .i64 0, .int .i64 0, .int .i64 0, .int .i64 0] 54 false), h2.lo⟩ := ⟨_, rfl⟩
    have le3 : Le h2 h3 := by rw [e3]; exact ((((Le.refl h2).new _).new _).set (b := h2.nx) (Nat.le_refl _) _).set (b := h2.nx + 1) (by omega) _
    rw [← e3]
    clear e3
    refine tCounts_w ((s.le le2).le le3) _ ?_
    simp (maxSteps := 3000000) (disch := first | omega | (simp only [Wx]; done) | (simp only [Wy]; done) | (simp only [Wv]; omega) | with_unfolding_all rfl) only [Wz, ptrTo, sliceTo, s85, dec_t (show (B.length : Int) - F.length = (n : Int) - (i : Int) - 1 by omega)]
    exact hN _ _ rfl (le2.trans le3)
  · intro h2 b2 e2 p2 hb2 he2 hf2 le2
    have := s.lent.2 ⟨b2, hb2, e2, he2, p2, (findQ_some hf2).1, rfl⟩
    rw [(findQ_some hf2).2] at this
    exact absurd this hid
end
end Go.Proofs

namespace Go.Proofs
open Go.Vai Go.Clashes
theorem scan_ids_len : ∀ (n : Nat) (Q : List R5), (scanQ n Q).2.length ≤ n := by
  intro n
  induction n with
  | zero => intro Q; exact Nat.le_refl 0
  | succ n ih =>
    intro Q
    unfold scanQ
    split
    · exact Nat.zero_le _
    · split
      · exact Nat.zero_le _
      · split
        · exact Nat.succ_le_succ (ih _)
        · exact Nat.zero_le _
section
variable {h : Heap} {tb bw bp bl : Nat} {c : Caps} {vb : Value} {heads N : Nat} {Ts : List TB} {W : List IE} {wc : Nat} {F : List Int} {B : List Bool}
/-- one request is left -/
theorem empty4 (s : TSt h tb bw bp bl c vb heads N Ts W wc F B) (hlo : h.lo ≤ h.nx) {v : Value} {ids : List Int} (a : IdsAt h bp v ids) {l22 l46 : List Value} (s24 : slot l22 24 = v) {turn : Int} {p i : Nat} (hpk : pickM turn (ids.length : Int) = (p : Int)) (hpl : p < ids.length) (hi : i < ids.length) (hil : ids.length ≤ 1000) (s85 : slot l46 85 = .int .i64 (i : Int)) (hp : (lentL B).Perm ((rotI p ids).drop i))
    (N45 : List Value → Heap → Prop) (v47 : Value) (κ : Value → Heap → Prop)
    (hN : ∀ l h' Ts' F' B', slot l 85 = .int .i64 ((i + 1 : Nat) : Int) → TSt h' tb bw bp bl c vb heads (N + 1) Ts' W wc F' B' → IdsAt h' bp v ids → (lentL B').Perm ((rotI p ids).drop (i + 1)) → h'.lo ≤ h'.nx → N45 l h') :
    rs_6_4 (.int .i64 turn) (.int .i64 (ids.length : Int)) l46 l22 (.pointer (some ⟨tb, 0, none⟩)) N45 v47 h κ := by
  unfold rs_6_4
  refine pick_w turn (ids.length : Int) (by omega) ?_
  rw [hpk]
  obtain ⟨m, hm⟩ : ∃ m, m = (i + p) % ids.length := ⟨_, rfl⟩
  have hml : m < ids.length := by rw [hm]; exact Nat.mod_lt _ (by omega)
  have et : Int.tmod ((i : Int) + (p : Int)) (ids.length : Int) = (m : Int) := by rw [hm, ← Int.natCast_add, mod_int]
  have hrl := rotI_len p ids
  obtain ⟨x, hx⟩ : ∃ x, (rotI p ids)[i]? = some x := ⟨_, List.getElem?_eq_getElem (by omega)⟩
  have hxm : ids[m]? = some x := by rw [hm, rotI_get hpl hi]; exact hx
  have hdrop : (rotI p ids).drop i = x :: (rotI p ids).drop (i + 1) := by
    obtain ⟨hl, e⟩ := List.getElem?_eq_some_iff.1 hx
    rw [List.drop_eq_getElem_cons hl, e]
  have hxl : x ∈ lentL B := hp.mem_iff.2 (by rw [hdrop]; exact .head _)
  obtain ⟨b0, hb0, e0, he0, p0, hp0, hid0⟩ := s.lent.1 hxl
  have hf0 := findQ_mem ((s.is.bk b0 hb0).good e0 he0).vq.pair hp0
  rw [hid0] at hf0
  obtain ⟨bi, cap, ev, hbi, hgi, hnf, hbp⟩ := id a
  have hr : (ids.flatMap encNum)[m]? = some (.int .i64 x) := by have := read_int (G := []) hxm; rwa [List.append_nil] at this
  simp (maxSteps := 3000000) (disch := first | omega | (simp only [Wx]; done) | (simp only [Wy]; done) | (simp only [Wv]; omega) | with_unfolding_all rfl) only [Wz, ptrTo, sliceTo, s85, bin_rem, et, s24, ev, indexAddr_eq, hgi, hr, Nat.mul_one]
  refine tLeave_w s hlo x _ ?_ ?_
  · intro hno
    rw [hno b0 hb0 e0 he0] at hf0; cases hf0
  intro k b h2 M' clock' F' v' e q n hk he hf hidn hbn hpF mv ho s2
  have hkl := (List.getElem?_eq_some_iff.1 hk).1
  have hk' : (Ts.set k ⟨b.bb, b.bm, M', clock'⟩)[k]? = some ⟨b.bb, b.bm, M', clock'⟩ := by rw [List.getElem?_set, if_pos rfl, if_pos hkl]
  have fr : FrT Ts bw bp bl h h2 := FrT.of_Q (List.mem_of_getElem? hk) mv.fr
  have a2 := a.fr s.is fr
  have n2 := fr.nx
  have l2 := fr.lo
  have hp2 : (lentL (B.set n false)).Perm ((rotI p ids).drop (i + 1)) := lent_left hbn (by rw [← hidn, ← hdrop]; exact hp)
  have hout : x ∉ lentL (B.set n false) := by
    intro hx
    obtain ⟨n', hn', hb'⟩ := mem_lent.1 hx
    have : n' = n := Int.ofNat.inj (hn'.symm.trans hidn)
    subst this
    rw [List.getElem?_set] at hb'
    simp at hb'
  have hlen2 : (lentL (B.set n false)).length = ids.length - i - 1 := by rw [hp2.length_eq, List.length_drop]; omega
  obtain ⟨G, hG⟩ : ∃ G, G = (scanQ (cntW (e.Q.filter fun r => !placeR x r) + 1) (e.Q.filter fun r => !placeR x r)).2 := ⟨_, rfl⟩
  have hGin : ∀ g ∈ G, ∃ b' ∈ Ts.set k ⟨b.bb, b.bm, M', clock'⟩, ∃ e' ∈ b'.M, ∃ r ∈ e'.Q, r.id = g ∧ r.m ≠ 0 ∧ r.s = 0 := by
    intro g hg
    rw [hG] at hg
    obtain ⟨r, hr, h1, h2, h3⟩ := (scan_ok (cntW (e.Q.filter fun r => !placeR x r) + 1) mv.vq).2.2.2 g hg
    have hne : (scanQ (cntW (e.Q.filter fun r => !placeR x r) + 1) (e.Q.filter fun r => !placeR x r)).1 ≠ [] := by intro h0; rw [h0] at hr; cases hr
    obtain ⟨e', _, _, _, hQ, hperm⟩ := mv.set.put hne
    exact ⟨_, List.mem_of_getElem? hk', e', hperm.mem_iff.2 (by simp), r, by rw [hQ]; exact hr, h1, h2, h3⟩
  have hGl : G.length ≤ 100000 := by
    have h1 := scan_ids_len (cntW (e.Q.filter fun r => !placeR x r) + 1) (e.Q.filter fun r => !placeR x r)
    have h2 : cntW (e.Q.filter fun r => !placeR x r) ≤ (e.Q.filter fun r => !placeR x r).length := by unfold cntW; exact List.length_filter_le _ _
    have h3 := List.length_filter_le (fun r => !placeR x r) e.Q
    have h4 := ((s.is.bk b (List.mem_of_getElem? hk)).good e he).small
    rw [hG]; omega
  rw [← hG] at ho
  simp (maxSteps := 3000000) (disch := first | omega | (simp only [Wx]; done) | (simp only [Wy]; done) | (simp only [Wv]; omega) | with_unfolding_all rfl) only [Wz, ptrTo, sliceTo]
  refine ⟨fun m l h3 => ∃ j : Nat, slot l 32 = .int .i64 (j : Int) ∧ m = G.length - j ∧ j ≤ G.length ∧ Le h2 h3, ⟨_, 0, rfl, rfl, by omega, Le.refl h2⟩, ?_⟩
  rintro m3 l58 h3 ⟨j, s32, rfl, hj, le3⟩
  have n3 := le3.nx
  have l3 := le3.lo
  by_cases hjl : j < G.length
  · simp (maxSteps := 3000000) (disch := first | omega | (simp only [Wx]; done) | (simp only [Wy]; done) | (simp only [Wv]; omega) | with_unfolding_all rfl) only [Wz, ptrTo, sliceTo, (ho.sl.le le3).len, s32, lt_t (show (j : Int) < (G.length : Int) by omega)]
    refine empty2 s2 (by omega) ho hGin le3 s32 hjl hGl _ _ _ κ ?_
    intro l4 h4 e4 le4
    exact ⟨_, by omega, j + 1, e4, rfl, by omega, le4⟩
  · simp (maxSteps := 3000000) (disch := first | omega | (simp only [Wx]; done) | (simp only [Wy]; done) | (simp only [Wv]; omega) | with_unfolding_all rfl) only [Wz, ptrTo, sliceTo, (ho.sl.le le3).len, s32, lt_f (show (G.length : Int) ≤ (j : Int) by omega)]
    refine empty3 (s2.le le3) (by omega) hout (n := ids.length) (i := i) hlen2 hi hil s85 _ _ _ _ _ _ _ _ _ _ _ _ _ _ _ κ ?_
    intro l4 h4 e4 le4
    have n4 := le4.nx
    have l4' := le4.lo
    exact hN _ _ _ _ _ e4 ((s2.le le3).le le4) ((a2.le le3).le le4) hp2 (by omega)
end
end Go.Proofs

namespace Go.Proofs
open Go.Vai Go.Clashes
section
variable {h : Heap} {tb bw bp bl : Nat} {c : Caps} {vb : Value} {heads N : Nat} {Ts : List TB} {W : List IE} {wc : Nat} {F : List Int} {B : List Bool}
theorem IdsAt.of {h3 : Heap} {v : Value} {L : List Int} (s : TSt h3 tb bw bp bl c vb heads N Ts W wc F B) (ho : OwnI h3 h v L) (le : Le h3 h) (hne : L ≠ []) : IdsAt h bp v L := by
  obtain ⟨fs, hgp, hpt⟩ := s.is.pool.fr.cell
  have hbp := s.is.pool.fr.lt
  rcases ho with ⟨e, _⟩ | ⟨b, e, h1, h2, _, h4⟩
  · exact absurd e hne
  refine ⟨b, _, e, h2, h4, fun x => ?_, Nat.lt_of_lt_of_le hbp le.nx⟩
  obtain ⟨n, cap, ls, hx⟩ := (FB.congr (le.get _ hbp)).1 x
  have hfs := cells_first (hgp.symm.trans hx)
  rcases hpt with ⟨_, e2⟩ | ⟨b2, G, e2, h5, _⟩
  · rw [e2] at hfs; cases hfs
  · rw [e2] at hfs
    injection hfs with e; injection e with e; injection e with e
    omega
/-- the end: nothing is there -/
theorem empty5 (s : TSt h tb bw bp bl c vb heads N Ts W wc F B) (hlo : h.lo ≤ h.nx) (hn : lentL B = []) (κ : Value → Heap → Prop) (hk : ∀ h', κ (.bool true) h') :
    rs_6_5 (.pointer (some ⟨tb, 0, none⟩)) h κ := by
  unfold rs_6_5
  have hnil := s.names_nil hn
  have hlen := lent_len s.is.pool.ok
  rw [hn] at hlen
  simp only [List.length_nil] at hlen
  have hnames : (Ts.flatMap fun b => b.M.map nmOf) = [] := by
    rw [List.flatMap_eq_nil_iff]
    intro b hb
    rw [hnil b hb]; rfl
  have hK : ∀ K : List HE, NamesOf Ts K → K = [] := by
    intro K t
    have := t.perm.length_eq
    rw [hnames, List.length_map] at this
    exact List.eq_nil_of_length_eq_zero this
  have hM : sumM Ts = 0 := by
    unfold sumM
    have : ∀ L : List TB, (∀ b ∈ L, b.M = []) → (L.map fun b => b.M.length).sum = 0 := by
      intro L
      induction L with
      | nil => intro _; rfl
      | cons b L ih =>
        intro h
        rw [List.map_cons, List.sum_cons, h b (.head _), ih fun x hx => h x (.tail _ hx)]; rfl
    exact this Ts hnil
  refine tCounts_w s _ ?_
  simp (maxSteps := 3000000) (disch := first | omega | (simp only [Wx]; done) | (simp only [Wy]; done) | (simp only [Wv]; omega) | with_unfolding_all rfl) only [Wz, ptrTo, sliceTo, dec_t (show ((sumM Ts : Nat) : Int) = 0 by omega), dec_t (show (B.length : Int) - F.length = 0 by omega)]
  refine tAll_w s hlo _ ?_
  intro v4 h4 D K2 ta le4
  have n4 := le4.nx
  have l4 := le4.lo
  have hD : D = [] := by
    have h1 := ta.perm
    rw [hK K2 ta.of] at h1
    exact List.Perm.eq_nil h1
  subst hD
  simp (maxSteps := 3000000) (disch := first | omega | (simp only [Wx]; done) | (simp only [Wy]; done) | (simp only [Wv]; omega) | with_unfolding_all rfl) only [Wz, ptrTo, sliceTo, ta.sl.len, dec_t (show (([] : List L4).length : Int) = 0 from rfl)]
  refine tSnap_w (s.le le4) (by omega) _ ?_
  intro v5 h5 K t5 le5
  have hKn := hK K t5.of
  subst hKn
  simp (maxSteps := 3000000) (disch := first | omega | (simp only [Wx]; done) | (simp only [Wy]; done) | (simp only [Wv]; omega) | with_unfolding_all rfl) only [Wz, ptrTo, sliceTo, t5.sl.len, dec_t (show (([] : List HE).length : Int) = 0 from rfl)]
  exact hk h5
end
theorem lawEmpty_w (c : Caps) (L : List Act) (turn : Int) (h : Heap) (v : Value) (hv : Sl encA h v L) (hlo : h.lo ≤ h.nx) (hno : ∀ c vs t, h.bl.get c ≠ some (cellsO vs t true)) (κ : Value → Heap → Prop) (hk : ∀ h', κ (.bool true) h') :
    CallW Tryz.prog 6 [capsV c, v, .int .i64 turn] h κ := by
  obtain ⟨x, cc, ev, _⟩ := (show Sl encA h v L from hv)
  refine callW_of mixed ?_
  rw [rs_6, ev]
  have hnoA := noNewT hno [.int .i64 c.S, .int .i64 c.H, .int .i64 c.R, .int .i64 c.P] 29 h.nx
  simp (disch := first | omega | (simp only [Wx]; done) | (simp only [Wy]; done) | (simp only [Wv]; omega) | with_unfolding_all rfl) only [Wz, ptrTo, sliceTo, capsV]
  obtain ⟨hA, e_hA⟩ : ∃ hA : Heap, hA = ⟨h.nx + 1, h.bl.upd h.nx (cellsO [.int .i64 c.S, .int .i64 c.H, .int .i64 c.R, .int .i64 c.P] 29 false), h.lo⟩ := ⟨_, rfl⟩
  have le_hA : Le h hA := by rw [e_hA]; exact (Le.refl h).new _
  have n_hA : hA.nx = h.nx + 1 := by rw [e_hA]
  have l_hA : hA.lo = h.lo := by rw [e_hA]
  have gc : hA.bl.get h.nx = some (cellsO [.int .i64 c.S, .int .i64 c.H, .int .i64 c.R, .int .i64 c.P] 29 false) := by rw [e_hA]; exact T.get_upd_same _ _ _
  have hnoC : ∀ c ws t', hA.bl.get c ≠ some (cellsO ws t' true) := by rw [e_hA]; exact hnoA
  rw [← e_hA]
  clear e_hA
  refine closedW mixed livesT_a ?_
  by_cases h50 : L.length ≤ 50
  case neg =>
    simp (disch := first | omega | (simp only [Wx]; done) | (simp only [Wy]; done) | (simp only [Wv]; omega) | with_unfolding_all rfl) only [Wz, ptrTo, sliceTo, dec_t (show (50 : Int) < (L.length : Int) by omega)]
    exact hk hA
  simp (disch := first | omega | (simp only [Wx]; done) | (simp only [Wy]; done) | (simp only [Wv]; omega) | with_unfolding_all rfl) only [Wz, ptrTo, sliceTo, lt_f (show (L.length : Int) ≤ 50 by omega), rs_6_8, gc]
  refine tNew_w c hA _ (by omega) ?_ ?_
  · intro h' e he
    simp (disch := first | omega | (simp only [Wx]; done) | (simp only [Wy]; done) | (simp only [Wv]; omega) | with_unfolding_all rfl) only [Wz, ptrTo, sliceTo, dec_f he, bin_eqT0]
    exact hk h'
  intro h1 tb bw bp bl vb heads T0 F0 s0 gbm gbw gbp gbl fr0
  simp (disch := first | omega | (simp only [Wx]; done) | (simp only [Wy]; done) | (simp only [Wv]; omega) | with_unfolding_all rfl) only [Wz, ptrTo, sliceTo]
  refine ⟨fun m l h2 => ∃ (i : Nat) (Ts : List TB) (W : List IE) (wc : Nat) (F : List Int) (B : List Bool), slot l 12 = .int .i64 (i : Int) ∧ m = L.length - i ∧ i ≤ L.length ∧ TSt h2 tb bw bp bl c vb heads i Ts W wc F B ∧ Ts.map (·.bm) = T0.map (·.bm) ∧ FrT T0 bw bp bl hA h2, ⟨_, 0, T0, [], 0, F0, _, rfl, rfl, by omega, s0, rfl, fr0⟩, ?_⟩
  rintro m l h2 ⟨i, Ts, W, wc, F, B, s1, rfl, hi, s, hbm, fr⟩
  have le2 := fr.toLe hnoC gbm gbw gbp gbl
  have n2 := le2.nx
  have l2 := le2.lo
  by_cases hst : i < L.length
  · obtain ⟨q, hq⟩ : ∃ q, L[i]? = some q := ⟨_, List.getElem?_eq_getElem hst⟩
    obtain ⟨b1, o1, hb1, hat1, _, hh1⟩ := (hv.le (le_hA.trans le2)).ld encA_len i hq
    have rr := fun (β : Type) (fl : β) κ => ldA_has (fl := fl) hh1 6 κ rfl
    rw [ev] at hat1
    simp (disch := first | omega | (simp only [Wx]; done) | (simp only [Wy]; done) | (simp only [Wv]; omega) | with_unfolding_all rfl) only [Wz, ptrTo, sliceTo, rs_6_7, s1, lt_t (show (i : Int) < (L.length : Int) by omega), hat1, rr]
    refine tcall_w s (by omega) (by omega) q _ ?_
    intro h3 Ts' W' wc' F' B' s3 hbm3 fr3
    exact ⟨_, by omega, i + 1, Ts', W', wc', F', B', rfl, rfl, by omega, s3, hbm3.trans hbm, fr.trans (fr3.congr hbm.symm)⟩
  simp (disch := first | omega | (simp only [Wx]; done) | (simp only [Wy]; done) | (simp only [Wv]; omega) | with_unfolding_all rfl) only [Wz, ptrTo, sliceTo, rs_6_7, s1, lt_f (show (L.length : Int) ≤ (i : Int) by omega)]
  refine tSnap_w s (by omega) _ ?_
  intro v3 h3 K t3 le3
  have n3 := le3.nx
  have l3 := le3.lo
  have s3 := s.le le3
  have hKl := s3.headsLen t3.of
  have hQl := s3.queueLen t3.of
  have hids := s3.idsPerm t3.of
  have hlent := lent_len s3.is.pool.ok
  have hsm := s3.is.pool.small
  have hil := hids.length_eq
  have htk : ∀ i, (idsM (K.take i)).length ≤ (idsM K).length := by
    intro i
    unfold idsM
    conv => rhs; rw [← List.take_append_drop i K, List.flatMap_append, List.length_append]
    omega
  obtain ⟨x4, c4, ev4, _⟩ := (show Sl encH h3 v3 K from t3.sl)
  have hlen4 : ∀ (β : Type) (fl : β) (h' : Heap) (κ : Value → Heap → β), lenSli fl v3 h' κ = κ (.int .i64 (K.length : Int)) h' := fun β fl h' κ => by rw [ev4]; exact lenSli_eq _ _ _ _ _
  refine ⟨fun m l h' => ∃ k : Nat, slot l 30 = .int .i64 (k : Int) ∧ OwnI h3 h' (slot l 24) (idsM (K.take k)) ∧ m = K.length - k ∧ k ≤ K.length ∧ Le h3 h', ⟨_, 0, rfl, .inl ⟨rfl, .inl rfl⟩, rfl, by omega, Le.refl h3⟩, ?_⟩
  rintro m l22 h4 ⟨k, s30, ho, rfl, hk4, le4⟩
  have n4 := le4.nx
  have l4 := le4.lo
  have hbk := htk k
  by_cases hkl : k < K.length
  · obtain ⟨e, he⟩ : ∃ e, K[k]? = some e := ⟨_, List.getElem?_eq_getElem hkl⟩
    simp (maxSteps := 3000000) (disch := first | omega | (simp only [Wx]; done) | (simp only [Wy]; done) | (simp only [Wv]; omega) | with_unfolding_all rfl) only [Wz, ptrTo, sliceTo, rs_6_6, hlen4, s30, lt_t (show (k : Int) < (K.length : Int) by omega)]
    refine ⟨fun m l h' => ∃ j : Nat, slot l 23 = .int .i64 (j : Int) ∧ OwnI h3 h' (slot l 20) (idsM (K.take k) ++ (e.Q.take j).map (·.id)) ∧ m = e.Q.length - j ∧ j ≤ e.Q.length ∧ Le h3 h', ⟨_, 0, rfl, ?_, rfl, by omega, le4⟩, ?_⟩
    · rw [List.take_zero, List.map_nil, List.append_nil]; exact ho
    rintro m l26 h5 ⟨j, s23, ho5, rfl, hj, le5⟩
    refine empty0 t3 (by omega) le5 he hKl hQl ho5 (by omega) s30 s23 hj _ _ _ _ ?_ ?_
    · intro hjl l6 h6 e23 ho6 le6
      exact ⟨_, by omega, j + 1, e23, ho6, rfl, by omega, le6⟩
    · intro hje l6 e30 e24
      refine ⟨_, ?_, k + 1, e30, ?_, rfl, by omega, le5⟩
      · omega
      · rw [e24, idsM_take he]
        rw [hje, List.take_length] at ho5
        exact ho5
  have hke : k = K.length := by omega
  subst hke
  rw [List.take_length] at ho
  obtain ⟨ids, hidse⟩ : ∃ ids, ids = idsM K := ⟨_, rfl⟩
  rw [← hidse] at ho hids hil
  obtain ⟨v4, e24⟩ : ∃ v4, slot l22 24 = v4 := ⟨_, rfl⟩
  rw [e24] at ho
  simp (maxSteps := 3000000) (disch := first | omega | (simp only [Wx]; done) | (simp only [Wy]; done) | (simp only [Wv]; omega) | with_unfolding_all rfl) only [Wz, ptrTo, sliceTo, rs_6_6, hlen4, s30, lt_f (show (K.length : Int) ≤ (K.length : Int) by omega), e24, ho.sl.len]
  obtain ⟨p, hp⟩ : ∃ p : Nat, p = (pickM turn (ids.length : Int)).toNat := ⟨_, rfl⟩
  refine ⟨fun m l h' => ∃ (j N' : Nat) (Ts' : List TB) (F' : List Int) (B' : List Bool), slot l 85 = .int .i64 (j : Int) ∧ m = ids.length - j ∧ j ≤ ids.length ∧ TSt h' tb bw bp bl c vb heads N' Ts' W wc F' B' ∧ (ids ≠ [] → IdsAt h' bp v4 ids) ∧ (lentL B').Perm ((rotI p ids).drop j) ∧ h'.lo ≤ h'.nx,
    ⟨_, 0, i, Ts, F, B, rfl, rfl, by omega, s3.le le4, fun hne => IdsAt.of s3 ho le4 hne, ?_, by omega⟩, ?_⟩
  · rw [List.drop_zero]
    exact hids.symm.trans (rotI_perm p ids).symm
  rintro m l46 h5 ⟨j, N', Ts', F', B', s85, rfl, hj, s5, hat, hpm, hlo5⟩
  by_cases hjl : j < ids.length
  · have hne : ids ≠ [] := by rintro rfl; simp at hjl
    obtain ⟨r1, r2⟩ := pickM_range (n := turn) (m := (ids.length : Int)) (by omega)
    simp (maxSteps := 3000000) (disch := first | omega | (simp only [Wx]; done) | (simp only [Wy]; done) | (simp only [Wv]; omega) | with_unfolding_all rfl) only [Wz, ptrTo, sliceTo, s85, lt_t (show (j : Int) < (ids.length : Int) by omega)]
    refine empty4 s5 hlo5 (hat hne) e24 (p := p) (by omega) (by omega) hjl (by omega) s85 hpm _ _ κ ?_
    intro l6 h6 Ts6 F6 B6 e85 s6 a6 p6 hlo6
    exact ⟨_, by omega, j + 1, N' + 1, Ts6, F6, B6, e85, rfl, by omega, s6, fun _ => a6, p6, hlo6⟩
  · simp (maxSteps := 3000000) (disch := first | omega | (simp only [Wx]; done) | (simp only [Wy]; done) | (simp only [Wv]; omega) | with_unfolding_all rfl) only [Wz, ptrTo, sliceTo, s85, lt_f (show (ids.length : Int) ≤ (j : Int) by omega)]
    refine empty5 s5 hlo5 ?_ κ hk
    rw [List.drop_of_length_le (by rw [rotI_len]; omega)] at hpm
    exact List.Perm.eq_nil hpm
end Go.Proofs
