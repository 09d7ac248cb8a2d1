/-
  PROVED HERE: a part of the proof, by a calculus of weakest conditions over an abstract heap (L1, L2, L3, L4).
-/
import Derived.Test.YtijmemedhkgplaaGreatKG
import Derived.Test.YtijmemedhkgplaaGreatV7
set_option linter.unusedVariables false
set_option linter.unusedSimpArgs false
set_option maxRecDepth 100000
namespace Go.Proofs
open Go.Vai Go.Clashes
theorem best_min {Q : List R5} : ∀ n b, best Q n = some b → ∀ (j : Nat) (p q : R5), j < n → Q[j]? = some p → upR p = true → Q[b]? = some q → q.s ≤ p.s := by
  intro n
  induction n with
  | zero => intro b h; cases h
  | succ n ih =>
    intro b h j p q hj hp hu hq
    unfold best at h
    split at h
    · rename_i r hr
      split at h
      · rename_i hc
        cases h
        rw [hr] at hq; cases hq
        rw [Bool.and_eq_true] at hc
        by_cases e : j = n
        · subst e; rw [hr] at hp; cases hp; exact Int.le_refl _
        · cases hb : best Q n with
          | none =>
            have := best_none Q n hb j p (by omega) hp
            rw [hu] at this; cases this
          | some b' =>
            obtain ⟨_, r', hr', _⟩ := best_lt Q n b' hb
            have h1 := ih b' hb j p r' (by omega) hp hu hr'
            have h2 := hc.2
            rw [hb] at h2
            unfold lessQ at h2
            simp only [hr'] at h2
            have := of_decide_eq_true h2
            omega
      · rename_i hc
        by_cases e : j = n
        · subst e
          rw [hr] at hp; cases hp
          have h2 : ¬ (lessQ Q p (best Q j) = true) := fun h => hc (by rw [hu, h]; rfl)
          rw [h] at h2
          unfold lessQ at h2
          simp only [hq] at h2
          have : ¬ p.s < q.s := fun h => h2 (dec_t h)
          omega
        · exact ih b h j p q (by omega) hp hu hq
    · rename_i hr
      by_cases e : j = n
      · subst e; rw [hp] at hr; cases hr
      · exact ih b h j p q (by omega) hp hu hq
theorem best_some {Q : List R5} {n j : Nat} {p : R5} (hj : j < n) (hp : Q[j]? = some p) (hu : upR p = true) : ∃ b, best Q n = some b := by
  cases hb : best Q n with
  | some b => exact ⟨b, rfl⟩
  | none =>
    have := best_none Q n hb j p hj hp
    rw [hu] at this; cases this
theorem best_any {Q : List R5} : Q.any upR = true ↔ ∃ b, best Q Q.length = some b := by
  rw [List.any_eq_true]
  constructor
  · rintro ⟨p, hp, hu⟩
    obtain ⟨j, hj⟩ := List.getElem?_of_mem hp
    exact best_some (List.getElem?_eq_some_iff.1 hj).1 hj hu
  · rintro ⟨b, hb⟩
    obtain ⟨_, p, hp, hu⟩ := best_lt Q _ b hb
    exact ⟨p, List.mem_of_getElem? hp, hu⟩
theorem set_at {Q : List R5} {i : Nat} {p p' : R5} (hp : Q[i]? = some p) (k : Nat) : (Q.set i p')[k]? = if i = k then some p' else Q[k]? := by
  rw [List.getElem?_set]
  by_cases e : i = k
  · subst e; rw [if_pos rfl, if_pos rfl, if_pos (List.getElem?_eq_some_iff.1 hp).1]
  · rw [if_neg e, if_neg e]
theorem best_same {Q : List R5} {i : Nat} {p p' : R5} (hp : Q[i]? = some p) (h0 : upR p = false) (h1 : upR p' = false) : ∀ n, best (Q.set i p') n = best Q n := by
  intro n
  induction n with
  | zero => rfl
  | succ n ih =>
    unfold best
    rw [set_at hp, ih]
    by_cases e : i = n
    · subst e
      rw [if_pos rfl, hp]
      simp only [h0, h1, Bool.false_and]
    · rw [if_neg e]
      split
      · rename_i r hr
        have hl : lessQ (Q.set i p') r (best Q n) = lessQ Q r (best Q n) := by
          unfold lessQ
          split
          · rfl
          · rename_i b hb
            obtain ⟨_, r', hr', hu'⟩ := best_lt Q n b hb
            have hne : i ≠ b := by rintro rfl; rw [hp] at hr'; cases hr'; rw [h0] at hu'; cases hu'
            rw [set_at hp, if_neg hne]
        rw [hl]
      · rfl
theorem findIdx_set {Q : List R5} {i : Nat} {p p' : R5} (hp : Q[i]? = some p) (h0 : p.m ≠ 0) (h1 : p'.m ≠ 0) : (Q.set i p').findIdx? (fun r => decide (r.m = 0)) = Q.findIdx? (fun r => decide (r.m = 0)) := by
  cases hf : Q.findIdx? (fun r => decide (r.m = 0)) with
  | none =>
    rw [List.findIdx?_eq_none_iff] at hf ⊢
    intro q hq
    rcases mem_set hq with rfl | hq
    · exact dec_f h1
    · exact hf q hq
  | some k =>
    rcases find_cases Q (fun r => decide (r.m = 0)) with ⟨e, _⟩ | ⟨k', q, e, hq, hk1, hk2⟩
    · rw [e] at hf; cases hf
    rw [e] at hf; cases hf
    have hqm : q.m = 0 := of_decide_eq_true hk1
    have hik : i ≠ k := by rintro rfl; rw [hp] at hq; cases hq; exact h0 hqm
    refine find_first (p := q) (by rw [set_at hp, if_neg hik]; exact hq) hk1 fun j r hj hr => ?_
    rw [set_at hp] at hr
    by_cases e : i = j
    · rw [if_pos e] at hr; cases hr; exact dec_f h1
    · rw [if_neg e] at hr; exact hk2 j r hj hr
theorem upg_stuck {Q : List R5} {W : Int} (v : VQ Q W) (hs : stuckQ Q) {i : Nat} {p : R5} {m : Int} (hi : Q[i]? = some p) (hps : ¬ 0 < p.s) (hm : askedM m = true) : stuckQ (Q.set i (upgR Q W p m).1) := by
  obtain ⟨m0, km⟩ := (askedM_iff m).1 hm
  have hpQ := List.mem_of_getElem? hi
  have hil := (List.getElem?_eq_some_iff.1 hi).1
  have R := v.right p hpQ
  have hs0 : p.s = 0 := by have := R.s0; omega
  obtain ⟨rm0, rw⟩ := R.hold hs0
  obtain ⟨_, c1, c2, c3, _⟩ := sup_of R.km km
  have up0 : upR p = false := by unfold upR; rw [dec_f hps, Bool.and_false]
  unfold upgR
  by_cases hc : (decide (supM p.m m = p.m) || (fitsQ Q ⟨p.id, p.x, p.m, supM p.m m, p.s⟩ && !Q.any upR)) = true
  · rw [if_pos hc]
    have hf : firstQ (Q.set i ⟨p.id, p.x, supM p.m m, supM p.m m, p.s⟩) = firstQ Q := by
      rw [firstQ_of, firstQ_of, List.length_set, best_same hi up0 (by unfold upR; rw [dec_f hps, Bool.and_false]), findIdx_set hi rm0 (c3 m0)]
    intro k r hk hr
    rw [hf] at hk
    rw [set_at hi] at hr
    have hik : i ≠ k := by
      rintro rfl
      have := first_waits v hk hi
      omega
    rw [if_neg hik] at hr
    have hfit := hs k r hk hr
    cases hfit2 : fitsQ (Q.set i ⟨p.id, p.x, supM p.m m, supM p.m m, p.s⟩) r with
    | false => rfl
    | true =>
      rw [fitsQ_iff] at hfit2
      have : fitsQ Q r = true := by
        rw [fitsQ_iff]
        intro o ho h1 h2
        obtain ⟨j, hj⟩ := List.getElem?_of_mem ho
        by_cases e : i = j
        · subst e
          rw [hi] at hj; cases hj
          have h3 := hfit2 ⟨p.id, p.x, supM p.m m, supM p.m m, p.s⟩ (List.mem_of_getElem? (i := i) (by rw [set_at hi, if_pos rfl])) h1 (c3 m0)
          exact cmp_down (v.right r (List.mem_of_getElem? hr)).kw c1 h3
        · exact hfit2 o (List.mem_of_getElem? (i := j) (by rw [set_at hi, if_neg e]; exact hj)) h1 h2
      rw [this] at hfit; cases hfit
  · rw [if_neg hc]
    rw [Bool.or_eq_true, decide_eq_true_eq, Bool.and_eq_true] at hc
    have w0 := v.w0
    generalize hp' : (⟨p.id, p.x, p.m, supM p.m m, W + 1⟩ : R5) = p'
    have i1 : p'.id = p.id := by rw [← hp']
    have i2 : p'.m = p.m := by rw [← hp']
    have i3 : p'.s = W + 1 := by rw [← hp']
    have i4 : p'.w = supM p.m m := by rw [← hp']
    show stuckQ (Q.set i p')
    have up1 : upR p' = true := (upR_iff _).2 ⟨by rw [i2]; exact rm0, by rw [i3]; omega⟩
    have fsame : ∀ r, fitsQ (Q.set i p') r = fitsQ Q r := by
      intro r
      rw [Bool.eq_iff_iff, fitsQ_iff, fitsQ_iff]
      constructor
      · intro h o ho h1 h2
        obtain ⟨j, hj⟩ := List.getElem?_of_mem ho
        by_cases e : i = j
        · subst e
          rw [hi] at hj; cases hj
          have := h p' (List.mem_of_getElem? (i := i) (by rw [set_at hi, if_pos rfl])) (by rw [i1]; exact h1) (by rw [i2]; exact h2)
          rw [i2] at this; exact this
        · exact h o (List.mem_of_getElem? (i := j) (by rw [set_at hi, if_neg e]; exact hj)) h1 h2
      · intro h o ho h1 h2
        obtain ⟨j, hj⟩ := List.getElem?_of_mem ho
        rw [set_at hi] at hj
        by_cases e : i = j
        · rw [if_pos e] at hj; cases hj
          rw [i1] at h1; rw [i2] at h2 ⊢
          exact h p hpQ h1 h2
        · rw [if_neg e] at hj
          exact h o (List.mem_of_getElem? hj) h1 h2
    intro k r hk hr
    rw [fsame]
    obtain ⟨b, hb⟩ := best_some (Q := Q.set i p') (n := (Q.set i p').length) (j := i) (by rw [List.length_set]; exact hil) (by rw [set_at hi, if_pos rfl]) up1
    have hkb : k = b := by rw [firstQ_of, hb] at hk; exact (Option.some.inj hk).symm
    subst hkb
    by_cases e : i = k
    · subst e
      rw [set_at hi, if_pos rfl] at hr; cases hr
      have hno : Q.any upR = false := by
        cases ha : Q.any upR with
        | false => rfl
        | true =>
          obtain ⟨q, hq, hu⟩ := List.any_eq_true.1 ha
          obtain ⟨j, hj⟩ := List.getElem?_of_mem hq
          have hij : i ≠ j := by rintro rfl; rw [hi] at hj; cases hj; rw [up0] at hu; cases hu
          have h1 := best_min (Q := Q.set i p') _ i hb j q p' (by rw [List.length_set]; exact (List.getElem?_eq_some_iff.1 hj).1) (by rw [set_at hi, if_neg hij]; exact hj) hu (by rw [set_at hi, if_pos rfl])
          have h2 := (v.right q hq).sW
          omega
      cases hfit : fitsQ Q p' with
      | false => rfl
      | true =>
        refine absurd (.inr ⟨?_, by rw [hno]; rfl⟩) hc
        rw [fitsQ_iff] at hfit ⊢
        intro o ho h1 h2
        have := hfit o ho (by rw [i1]; exact h1) h2
        rw [i4] at this; exact this
    · rw [set_at hi, if_neg e] at hr
      obtain ⟨_, r', hr', hu'⟩ := best_lt _ _ k hb
      rw [set_at hi, if_neg e, hr] at hr'; cases hr'
      obtain ⟨b2, hb2⟩ := best_some (Q := Q) (n := Q.length) (List.getElem?_eq_some_iff.1 hr).1 hr hu'
      obtain ⟨_, q2, hq2, hu2⟩ := best_lt _ _ b2 hb2
      have hib2 : i ≠ b2 := by rintro rfl; rw [hi] at hq2; cases hq2; rw [up0] at hu2; cases hu2
      have h1 := best_min Q.length b2 hb2 k r q2 (List.getElem?_eq_some_iff.1 hr).1 hr hu' hq2
      have h2 := best_min (Q := Q.set i p') _ k hb b2 q2 r (by rw [List.length_set]; exact (List.getElem?_eq_some_iff.1 hq2).1) (by rw [set_at hi, if_neg hib2]; exact hq2) hu2 (by rw [set_at hi, if_neg e]; exact hr)
      have hkb2 : k = b2 := by
        rcases Nat.lt_trichotomy k b2 with h3 | h3 | h3
        · exact absurd (by omega) ((pw_get.1 v.pair k b2 r q2 h3 hr hq2).s ((upR_iff r).1 hu').2)
        · exact h3
        · exact absurd (by omega) ((pw_get.1 v.pair b2 k q2 r h3 hq2 hr).s ((upR_iff q2).1 hu2).2)
      subst hkb2
      exact hs k r (by rw [firstQ_of, hb2]) hr
theorem fitsN_at {Q : List R5} (hp : Q.Pairwise Beside) {i : Nat} {r : R5} (hr : Q[i]? = some r) (m : Int) : fitsN Q m i Q.length = fitsQ Q ⟨r.id, r.x, r.m, m, r.s⟩ := by
  rw [Bool.eq_iff_iff, fitsN_iff, fitsQ_iff]
  constructor
  · intro h o ho h1 h2
    obtain ⟨j, hj⟩ := List.getElem?_of_mem ho
    refine h j o (List.getElem?_eq_some_iff.1 hj).1 hj (fun e => h1 ?_) h2
    have : j = i := by omega
    subst this; rw [hr] at hj; cases hj; rfl
  · intro h j p hj hpj hb hm
    exact h p (List.mem_of_getElem? hpj) (fun e => hb (by rw [ids_at hp hpj hr e])) hm
theorem fitsN_no {Q : List R5} {id x m : Int} (hn : ∀ q ∈ Q, q.id ≠ id) : fitsN Q m (-1) Q.length = fitsQ Q ⟨id, x, 0, m, 0⟩ := by
  rw [Bool.eq_iff_iff, fitsN_iff, fitsQ_iff]
  constructor
  · intro h o ho h1 h2
    obtain ⟨j, hj⟩ := List.getElem?_of_mem ho
    exact h j o (List.getElem?_eq_some_iff.1 hj).1 hj (by omega) h2
  · intro h j p hj hpj hb hm
    exact h p (List.mem_of_getElem? hpj) (hn p (List.mem_of_getElem? hpj)) hm
theorem erase_id {Q : List R5} (hp : Q.Pairwise Beside) {i : Nat} {p : R5} (hi : Q[i]? = some p) : Q.filter (fun r => !placeR p.id r) = Q.take i ++ Q.drop (i + 1) := by
  have hil := (List.getElem?_eq_some_iff.1 hi).1
  have e0 : Q = Q.take i ++ p :: Q.drop (i + 1) := by
    conv => lhs; rw [← List.take_append_drop i Q]
    rw [List.drop_eq_getElem_cons hil]
    rw [List.getElem?_eq_getElem hil] at hi
    cases hi; rfl
  have far : ∀ (j : Nat) (q : R5), Q[j]? = some q → j ≠ i → placeR p.id q = false := by
    intro j q hj hne
    unfold placeR
    exact dec_f fun e => hne (ids_at hp hj hi e)
  conv => lhs; rw [e0]
  rw [List.filter_append, List.filter_cons]
  have e1 : (!placeR p.id p) = false := by unfold placeR; rw [dec_t rfl]; rfl
  rw [e1, if_neg (by simp)]
  congr 1
  · rw [List.filter_eq_self]
    intro q hq
    obtain ⟨j, hj⟩ := List.getElem?_of_mem hq
    rw [List.getElem?_take] at hj
    split at hj
    · rw [far j q hj (by omega)]; rfl
    · cases hj
  · rw [List.filter_eq_self]
    intro q hq
    obtain ⟨j, hj⟩ := List.getElem?_of_mem hq
    rw [List.getElem?_drop] at hj
    rw [far (i + 1 + j) q hj (by omega)]; rfl
end Go.Proofs

namespace Go.Proofs
open Go.Vai Go.Clashes
theorem rat_w (t r' : Int) (q : Value) (w id : Int) (Q : List R5) (h : Heap) (κ : Value → Heap → Prop) (hq : Sl enc5 h q Q) (hlen : Q.length ≤ 1000000) (hlo : h.lo ≤ h.nx) (hk : ∀ h', Le h h' → κ (.int .i64 (optI (Q.findIdx? (placeR id)))) h') :
    CallW Tryz.prog 87 [hdV t r' q w, .int .i64 id] h κ := by
  obtain ⟨hc, ho⟩ := sl_cells hq
  refine callW_of mixed ?_
  rw [rs_87]
  simp(disch:=first|omega|(simp only[Wx];done)|(simp only[Wy];done)|(simp only[Wv];omega)|with_unfolding_all rfl)only[Wz,ptrTo,sliceTo, hdV]
  obtain ⟨hA, e_hA⟩ : ∃ hA : Heap, hA = ⟨h.nx + 1, (h.bl.upd (h.nx) (cellsO [.int .i64 t, .int .i64 r', q, .int .i64 w] 56 false)), h.lo⟩ := ⟨_, rfl⟩
  have le_hA : Le h hA := by subst e_hA; exact ((Le.refl h).new _)
  have gA : hA.bl.get (h.nx) = some (cellsO [.int .i64 t, .int .i64 r', q, .int .i64 w] 56 false) := by subst e_hA; exact T.get_upd_same _ _ _
  have n_hA : hA.nx = h.nx + 1 := by subst e_hA; rfl
  have l_hA : hA.lo = h.lo := by subst e_hA; rfl
  rw [← e_hA]
  clear e_hA
  have hqA := hq.le le_hA
  refine ⟨fun n l h1 => ∃ i : Nat, slot l 17 = .int .i64 (i : Int) ∧ (∀ (j : Nat) (p : R5), j < i → Q[j]? = some p → placeR id p = false) ∧ i ≤ Q.length ∧ n = Q.length - i ∧ HQ hA h1, ⟨_, 0, rfl, fun j p h => (by omega), Nat.zero_le _, rfl, rfl⟩, ?_⟩
  rintro n l h1 ⟨i, s1, hn, hi, rfl, hle⟩
  cases (show hA = h1 from hle)
  by_cases hlt : i < Q.length
  · obtain ⟨p, hp⟩ : ∃ p, Q[i]? = some p := ⟨_, List.getElem?_eq_getElem hlt⟩
    obtain ⟨b, o, hb, hat, hld⟩ := ld5 hqA i hp
    by_cases hm : p.id = id
    · simp(disch:=first|omega|(simp only[Wx];done)|(simp only[Wy];done)|(simp only[Wv];omega)|with_unfolding_all rfl)only[Wz,ptrTo,sliceTo, rs_87_1, s1, gA, hqA.len, rs_87_0, hat, hld, dec_t hm]
      have := hk hA le_hA
      rw [find_first hp (show placeR id p = true from dec_t hm) hn] at this
      exact this
    · simp(disch:=first|omega|(simp only[Wx];done)|(simp only[Wy];done)|(simp only[Wv];omega)|with_unfolding_all rfl)only[Wz,ptrTo,sliceTo, rs_87_1, s1, gA, hqA.len, rs_87_0, hat, hld, dec_f hm]
      refine ⟨_, by omega, i + 1, rfl, fun j q hj hq => ?_, by omega, rfl, rfl⟩
      by_cases hji : j = i
      · subst hji; rw [hp] at hq; cases hq; exact dec_f hm
      · exact hn j q (by omega) hq
  · have hil : i = Q.length := by omega
    subst hil
    simp(disch:=first|omega|(simp only[Wx];done)|(simp only[Wy];done)|(simp only[Wv];omega)|with_unfolding_all rfl)only[Wz,ptrTo,sliceTo, rs_87_1, s1, gA, hqA.len]
    have := hk hA le_hA
    rw [find_no hn] at this
    exact this
theorem rfind9_w (t r : Int) (q : Value) (w id : Int) (Q : List R5) (h : Heap) (κ : Value → Heap → Prop) (hq : Sl enc5 h q Q) (hlen : Q.length ≤ 100000) (hlo : h.lo ≤ h.nx)
    (hk : ∀ h', Le h h' → κ (match findQ Q id with | some p => .tuple ⟨[aggR p, .bool true]⟩ | none => .tuple ⟨[aggR ⟨0, 0, 0, 0, 0⟩, .bool false]⟩) h') :
    CallW Tryz.prog 51 [hdV t r q w, .int .i64 id] h κ := by
  obtain ⟨hc, ho⟩ := sl_cells hq
  refine callW_of mixed ?_
  rw [rs_51]
  simp(disch:=first|omega|(simp only[Wx];done)|(simp only[Wy];done)|(simp only[Wv];omega)|with_unfolding_all rfl)only[Wz,ptrTo,sliceTo, hdV]
  obtain ⟨hA, e_hA⟩ : ∃ hA : Heap, hA = ⟨h.nx + 1 + 1, ((h.bl.upd (h.nx) (cellsO [.int .i64 t, .int .i64 r, q, .int .i64 w] 56 false)).upd (h.nx + 1) (blkR ⟨0, 0, 0, 0, 0⟩)), h.lo⟩ := ⟨_, rfl⟩
  have le_hA : Le h hA := by subst e_hA; exact (((Le.refl h).new _).new _)
  have g1 : hA.bl.get (h.nx) = some (cellsO [.int .i64 t, .int .i64 r, q, .int .i64 w] 56 false) := by subst e_hA; exact (T.get_updne _ _ (by omega)).trans (T.get_upd_same _ _ _)
  have g3 : hA.bl.get (h.nx + 1) = some (blkR ⟨0, 0, 0, 0, 0⟩) := by subst e_hA; exact T.get_upd_same _ _ _
  have n_hA : hA.nx = h.nx + 1 + 1 := by subst e_hA; rfl
  have l_hA : hA.lo = h.lo := by subst e_hA; rfl
  rw [← e_hA]
  clear e_hA
  refine rat_w t r q w id Q hA _ (hq.le le_hA) (by omega) (by omega) ?_
  intro h2 le2
  have n_le2 := le2.nx
  have l_le2 := le2.lo
  have g1 := (le2.get _ (by omega)).trans g1
  have g3 := (le2.get _ (by omega)).trans g3
  have hq2 := (hq.le le_hA).le le2
  rcases place_cases Q id with ⟨e, e2⟩ | ⟨i, p, e, hi, hjd, e2⟩
  · rw [e]
    rw [e2] at hk
    simp(disch:=first|omega|(simp only[Wx];done)|(simp only[Wy];done)|(simp only[Wv];omega)|with_unfolding_all rfl)only[Wz,ptrTo,sliceTo, optI, lt_t (show (-1 : Int) < 0 by decide), g3]
    exact hk _ ((le_hA.trans le2).set (b := h.nx + 1) (by omega) _)
  · rw [e]
    rw [e2] at hk
    obtain ⟨b, o, hb, hat, hld⟩ := ld5 hq2 i hi
    simp(disch:=first|omega|(simp only[Wx];done)|(simp only[Wy];done)|(simp only[Wv];omega)|with_unfolding_all rfl)only[Wz,ptrTo,sliceTo, optI, lt_f (show (0 : Int) ≤ (i : Int) by omega), g1, hat, hld, enc5, g3]
    exact hk _ ((le_hA.trans le2).set (b := h.nx + 1) (by omega) _)
theorem raskedQ_w (m : Int) {h : Heap} {κ : Value → Heap → Prop} (hk : κ (.bool (askedM m)) h) : CallW Tryz.prog 104 [.int .i64 m] h κ := by
  refine callW_of mixed ?_
  rw [rs_104]
  by_cases h0 : m = 0
  · have : askedM m = false := by unfold askedM; simp [h0]
    rw [this] at hk
    simp(disch:=first|omega|(simp only[Wx];done)|(simp only[Wy];done)|(simp only[Wv];omega)|with_unfolding_all rfl)only[Wz,ptrTo,sliceTo, dec_t h0]
    exact hk
  · simp(disch:=first|omega|(simp only[Wx];done)|(simp only[Wy];done)|(simp only[Wv];omega)|with_unfolding_all rfl)only[Wz,ptrTo,sliceTo, dec_f h0]
    refine rknown_w m ?_
    have : askedM m = kn m := by unfold askedM; simp [h0]
    rw [this] at hk
    exact hk
theorem rask_w (t r : Int) (q : Value) (w id x m : Int) (Q : List R5) (h : Heap) (κ : Value → Heap → Prop) (hq : Sl enc5 h q Q) (hlen : Q.length ≤ 10000) (hlo : h.lo ≤ h.nx) (hw : 0 ≤ w ∧ w ≤ 1000000) (hid : 0 ≤ id) (hm : askedM m = true) (hn : ∀ p ∈ Q, p.id ≠ id ∧ p.x ≠ x)
    (hk : ∀ q' h', OwnR h h' q' (Q ++ [(askR Q w id x m).1]) → Le h h' → κ (.tuple ⟨[hdV t r q' (askR Q w id x m).2.1, .bool (askR Q w id x m).2.2, .int .i64 0]⟩) h') :
    CallW Tryz.prog 82 [hdV t r q w, .int .i64 id, .int .i64 x, .int .i64 m] h κ := by
  have hq' := hq
  obtain ⟨qx, qc, rfl, _⟩ := hq'
  refine callW_of mixed ?_
  rw [rs_82]
  simp(disch:=first|omega|(simp only[Wx];done)|(simp only[Wy];done)|(simp only[Wv];omega)|with_unfolding_all rfl)only[Wz,ptrTo,sliceTo, hdV]
  obtain ⟨hA, e_hA⟩ : ∃ hA : Heap, hA = ⟨h.nx + 1 + 1, ((h.bl.upd (h.nx) (cellsO [.int .i64 t, .int .i64 r, .slice qx Q.length qc, .int .i64 w] 56 false)).upd (h.nx + 1) (cellsO [.int .i64 0, .int .i64 0, .slice none 0 0, .int .i64 0] 56 false)), h.lo⟩ := ⟨_, rfl⟩
  have le_hA : Le h hA := by subst e_hA; exact (((Le.refl h).new _).new _)
  have g1 : hA.bl.get (h.nx) = some (cellsO [.int .i64 t, .int .i64 r, .slice qx Q.length qc, .int .i64 w] 56 false) := by subst e_hA; exact (T.get_updne _ _ (by omega)).trans (T.get_upd_same _ _ _)
  have g3 : hA.bl.get (h.nx + 1) = some (cellsO [.int .i64 0, .int .i64 0, .slice none 0 0, .int .i64 0] 56 false) := by subst e_hA; exact T.get_upd_same _ _ _
  have n_hA : hA.nx = h.nx + 1 + 1 := by subst e_hA; rfl
  have l_hA : hA.lo = h.lo := by subst e_hA; rfl
  rw [← e_hA]
  clear e_hA
  have hqA := hq.le le_hA
  refine raskedQ_w m ?_
  rw [hm]
  simp(disch:=first|omega|(simp only[Wx];done)|(simp only[Wy];done)|(simp only[Wv];omega)|with_unfolding_all rfl)only[Wz,ptrTo,sliceTo]
  refine ⟨fun n l h1 => ∃ i : Nat, slot l 28 = .int .i64 (i : Int) ∧ i ≤ Q.length ∧ n = Q.length - i ∧ HQ hA h1, ⟨_, 0, rfl, Nat.zero_le _, rfl, rfl⟩, ?_⟩
  rintro n l h1 ⟨i, s1, hi, rfl, hle⟩
  cases (show hA = h1 from hle)
  by_cases hlt : i < Q.length
  · obtain ⟨p, hp⟩ : ∃ p, Q[i]? = some p := ⟨_, List.getElem?_eq_getElem hlt⟩
    obtain ⟨b, o, hb, hat, hld⟩ := ld5 hqA i hp
    have hnp := hn p (List.mem_of_getElem? hp)
    simp(disch:=first|omega|(simp only[Wx];done)|(simp only[Wy];done)|(simp only[Wv];omega)|with_unfolding_all rfl)only[Wz,ptrTo,sliceTo, rs_82_4, s1, g1, lt_t (show (i : Int) < (Q.length : Int) by omega), rs_82_2, hat, hld, dec_f hnp.1, dec_f hnp.2]
    exact ⟨_, by omega, i + 1, rfl, by omega, rfl, rfl⟩
  have hil : i = Q.length := by omega
  subst hil
  simp(disch:=first|omega|(simp only[Wx];done)|(simp only[Wy];done)|(simp only[Wv];omega)|with_unfolding_all rfl)only[Wz,ptrTo,sliceTo, rs_82_4, s1, g1, lt_f (show (Q.length : Int) ≤ (Q.length : Int) by omega), rs_82_3]
  refine rcopied_w t r _ w Q hA _ hqA (by omega) (by omega) ?_
  intro q2 h2 ho2 le2
  have n_le2 := le2.nx
  have l_le2 := le2.lo
  have g1 := (le2.get _ (by omega)).trans g1
  have g3 := (le2.get _ (by omega)).trans g3
  obtain ⟨qx2, qc2, rfl, _⟩ := ho2.sl
  simp(disch:=first|omega|(simp only[Wx];done)|(simp only[Wy];done)|(simp only[Wv];omega)|with_unfolding_all rfl)only[Wz,ptrTo,sliceTo, hdV, g1]
  obtain ⟨hB, e_hB⟩ : ∃ hB : Heap, hB = ⟨h2.nx + 1, (h2.bl.upd (h2.nx) (cellsO [.int .i64 t, .int .i64 r, .slice qx2 Q.length qc2, .int .i64 w] 56 false)), h2.lo⟩ := ⟨_, rfl⟩
  have le_hB : Le h2 hB := by subst e_hB; exact ((Le.refl h2).new _)
  have g5 : hB.bl.get (h2.nx) = some (cellsO [.int .i64 t, .int .i64 r, .slice qx2 Q.length qc2, .int .i64 w] 56 false) := by subst e_hB; exact T.get_upd_same _ _ _
  have n_hB : hB.nx = h2.nx + 1 := by subst e_hB; rfl
  have l_hB : hB.lo = h2.lo := by subst e_hB; rfl
  rw [← e_hB]
  clear e_hB
  have n_le_hB := le_hB.nx
  have l_le_hB := le_hB.lo
  have g1 := (le_hB.get _ (by omega)).trans g1
  have g3 := (le_hB.get _ (by omega)).trans g3
  refine rup_w t r _ w Q hB _ ((hqA.le le2).le le_hB) (by omega) (by omega) ?_
  intro h3 le3
  have n_le3 := le3.nx
  have l_le3 := le3.lo
  have g1 := (le3.get _ (by omega)).trans g1
  have g3 := (le3.get _ (by omega)).trans g3
  have g5 := (le3.get _ (by omega)).trans g5
  have hq3 := ((hqA.le le2).le le_hB).le le3
  have ho3 := (ho2.le le_hB).le le3
  have le03 := ((le_hA.trans le2).trans le_hB).trans le3
  have endT : ∀ hh, Le h3 hh → askR Q w id x m = (⟨id, x, m, m, 0⟩, w, true) → rs_82_0 h2.nx (.int .i64 id) (.int .i64 x) (.int .i64 m) (h.nx + 1) hh κ := by
    intro hh leh ea
    rw [ea] at hk
    have n_leh := leh.nx
    have l_leh := leh.lo
    have g3 := (leh.get _ (by omega)).trans g3
    have g5 := (leh.get _ (by omega)).trans g5
    simp(disch:=first|omega|(simp only[Wx];done)|(simp only[Wy];done)|(simp only[Wv];omega)|with_unfolding_all rfl)only[Wz,ptrTo,sliceTo, rs_82_0, g5]
    obtain ⟨hC, e_hC⟩ : ∃ hC : Heap, hC = ⟨hh.nx + 1, (hh.bl.upd (hh.nx) (cellsO [.int .i64 id, .int .i64 x, .int .i64 m, .int .i64 m, .int .i64 0] 47 false)), hh.lo⟩ := ⟨_, rfl⟩
    have le_hC : Le hh hC := by subst e_hC; exact ((Le.refl hh).new _)
    have gC : hC.bl.get (hh.nx) = some (cellsO [.int .i64 id, .int .i64 x, .int .i64 m, .int .i64 m, .int .i64 0] 47 false) := by subst e_hC; exact T.get_upd_same _ _ _
    have n_hC : hC.nx = hh.nx + 1 := by subst e_hC; rfl
    have l_hC : hC.lo = hh.lo := by subst e_hC; rfl
    rw [← e_hC]
    clear e_hC
    have n_le_hC := le_hC.nx
    have l_le_hC := le_hC.lo
    have g3 := (le_hC.get _ (by omega)).trans g3
    have g5 := (le_hC.get _ (by omega)).trans g5
    have hoC := (ho3.le leh).le le_hC
    refine append_in (enc := enc5) (a := hA) (L := Q) (M := [(⟨id, x, m, m, 0⟩ : R5)]) enc5_len enc5_one (by decide) (by decide) hoC (Sl.new (L := [(⟨id, x, m, m, 0⟩ : R5)]) (e := 47) (op := false) (by omega) gC _) (((((le2.trans le_hB).trans le3).trans leh).trans le_hC)) (by simp; omega) (by omega) _ ?_
    intro v' h' ho' hle' _ hn2 hl' hsame
    have g5 := (hsame h2.nx (by omega) (by rw [g5]; exact cells_op)).trans g5
    have g3 := (hsame (h.nx + 1) (by omega) (by rw [g3]; exact cells_op)).trans g3
    obtain ⟨qx', qc', rfl, _⟩ := ho'.sl
    simp(disch:=first|omega|(simp only[Wx];done)|(simp only[Wy];done)|(simp only[Wv];omega)|with_unfolding_all rfl)only[Wz,ptrTo,sliceTo, g5, g3]
    refine hk _ _ ?_ ?_
    · refine Own.base (Own.put (Own.put ho' (by rw [g5]; exact cells_op) _) ?_ _) (by omega)
      show (h'.bl.upd h2.nx _).get (h.nx + 1) ≠ _
      rw [T.get_updne _ _ (by omega), g3]; exact cells_op
    · exact ((le_hA.trans hle').set (b := h2.nx) (by omega) _).set (b := h.nx + 1) (by omega) _
  have endF : ∀ hh, Le h3 hh → askR Q w id x m = (⟨id, x, 0, m, w + 1⟩, w + 1, false) → rs_82_1 h2.nx (.int .i64 id) (.int .i64 x) (.int .i64 m) (h.nx + 1) hh κ := by
    intro hh leh ea
    rw [ea] at hk
    have n_leh := leh.nx
    have l_leh := leh.lo
    have g3 := (leh.get _ (by omega)).trans g3
    have g5 := (leh.get _ (by omega)).trans g5
    simp(disch:=first|omega|(simp only[Wx];done)|(simp only[Wy];done)|(simp only[Wv];omega)|with_unfolding_all rfl)only[Wz,ptrTo,sliceTo, rs_82_1, g5]
    have le1 : Le hA ⟨hh.nx, hh.bl.upd h2.nx (cellsO [.int .i64 t, .int .i64 r, .slice qx2 Q.length qc2, .int .i64 (w + 1)] 56 false), hh.lo⟩ := (((le2.trans le_hB).trans le3).trans leh).set (b := h2.nx) (by omega) _
    have ho1 : OwnR hA ⟨hh.nx, hh.bl.upd h2.nx (cellsO [.int .i64 t, .int .i64 r, .slice qx2 Q.length qc2, .int .i64 (w + 1)] 56 false), hh.lo⟩ (.slice qx2 Q.length qc2) Q := Own.put (ho3.le leh) (by rw [g5]; exact cells_op) _
    obtain ⟨hC, eC⟩ : ∃ hC : Heap, hC = ⟨hh.nx + 1, (hh.bl.upd h2.nx (cellsO [.int .i64 t, .int .i64 r, .slice qx2 Q.length qc2, .int .i64 (w + 1)] 56 false)).upd hh.nx (cellsO [.int .i64 id, .int .i64 x, .int .i64 0, .int .i64 m, .int .i64 (w + 1)] 47 false), hh.lo⟩ := ⟨_, rfl⟩
    have leC : Le hA hC := by rw [eC]; exact le1.new _
    have hoC : OwnR hA hC (.slice qx2 Q.length qc2) Q := by rw [eC]; exact ho1.le ((Le.refl _).new _)
    have gC : hC.bl.get hh.nx = some (cellsO [.int .i64 id, .int .i64 x, .int .i64 0, .int .i64 m, .int .i64 (w + 1)] 47 false) := by rw [eC]; exact T.get_upd_same _ _ _
    have g5 : hC.bl.get h2.nx = some (cellsO [.int .i64 t, .int .i64 r, .slice qx2 Q.length qc2, .int .i64 (w + 1)] 56 false) := by rw [eC]; exact (T.get_updne _ _ (by omega)).trans (T.get_upd_same _ _ _)
    have g3 : hC.bl.get (h.nx + 1) = some (cellsO [.int .i64 0, .int .i64 0, .slice none 0 0, .int .i64 0] 56 false) := by rw [eC]; exact (T.get_updne _ _ (by omega)).trans ((T.get_updne _ _ (by omega)).trans g3)
    have nC : hC.nx = hh.nx + 1 := by rw [eC]
    have lC : hC.lo = hh.lo := by rw [eC]
    rw [← eC]
    clear eC
    refine append_in (enc := enc5) (a := hA) (L := Q) (M := [(⟨id, x, 0, m, w + 1⟩ : R5)]) enc5_len enc5_one (by decide) (by decide) hoC (Sl.new (L := [(⟨id, x, 0, m, w + 1⟩ : R5)]) (e := 47) (op := false) (by omega) gC _) leC (by simp; omega) (by omega) _ ?_
    intro v' h' ho' hle' _ hn2 hl' hsame
    have g5 := (hsame h2.nx (by omega) (by rw [g5]; exact cells_op)).trans g5
    have g3 := (hsame (h.nx + 1) (by omega) (by rw [g3]; exact cells_op)).trans g3
    obtain ⟨qx', qc', rfl, _⟩ := ho'.sl
    simp(disch:=first|omega|(simp only[Wx];done)|(simp only[Wy];done)|(simp only[Wv];omega)|with_unfolding_all rfl)only[Wz,ptrTo,sliceTo, g5, g3]
    refine hk _ _ ?_ ?_
    · refine Own.base (Own.put (Own.put ho' (by rw [g5]; exact cells_op) _) ?_ _) (by omega)
      show (h'.bl.upd h2.nx _).get (h.nx + 1) ≠ _
      rw [T.get_updne _ _ (by omega), g3]; exact cells_op
    · exact ((le_hA.trans hle').set (b := h2.nx) (by omega) _).set (b := h.nx + 1) (by omega) _
  have hids : ∀ p ∈ Q, p.id ≠ id := fun p hp => (hn p hp).1
  have noT : ¬ (firstQ Q = none ∧ fitsQ Q ⟨id, x, 0, m, 0⟩ = true) → askR Q w id x m = (⟨id, x, 0, m, w + 1⟩, w + 1, false) := by
    intro hc
    unfold askR
    rw [if_neg (by rw [Bool.and_eq_true, decide_eq_true_eq]; exact hc)]
  cases hb : best Q Q.length with
  | some b =>
    have hf : firstQ Q ≠ none := by rw [firstQ_of, hb]; simp
    simp(disch:=first|omega|(simp only[Wx];done)|(simp only[Wy];done)|(simp only[Wv];omega)|with_unfolding_all rfl)only[Wz,ptrTo,sliceTo, optI, lt_f (show (0 : Int) ≤ (b : Int) by omega)]
    exact endF h3 (Le.refl _) (noT fun h => hf h.1)
  | none =>
    simp(disch:=first|omega|(simp only[Wx];done)|(simp only[Wy];done)|(simp only[Wv];omega)|with_unfolding_all rfl)only[Wz,ptrTo,sliceTo, optI, lt_t (show (-1 : Int) < 0 by decide), g1]
    refine rwaiting_w t r _ w Q h3 _ hq3 (by omega) (by omega) ?_
    intro h4 le4
    have n_le4 := le4.nx
    have l_le4 := le4.lo
    have g1 := (le4.get _ (by omega)).trans g1
    cases hw0 : Q.findIdx? (fun r => decide (r.m = 0)) with
    | some b =>
      have hf : firstQ Q ≠ none := by rw [firstQ_of, hb]; simp only; rw [hw0]; simp
      simp(disch:=first|omega|(simp only[Wx];done)|(simp only[Wy];done)|(simp only[Wv];omega)|with_unfolding_all rfl)only[Wz,ptrTo,sliceTo, optI, lt_f (show (0 : Int) ≤ (b : Int) by omega)]
      exact endF h4 le4 (noT fun h => hf h.1)
    | none =>
      have hf : firstQ Q = none := by rw [firstQ_of, hb]; exact hw0
      simp(disch:=first|omega|(simp only[Wx];done)|(simp only[Wy];done)|(simp only[Wv];omega)|with_unfolding_all rfl)only[Wz,ptrTo,sliceTo, optI, lt_t (show (-1 : Int) < 0 by decide), g1]
      refine rfits_w t r _ w m (-1) Q h4 _ (hq3.le le4) (by omega) (by omega) ?_
      intro h5 le5
      rw [fitsN_no (x := x) hids]
      cases hfit : fitsQ Q ⟨id, x, 0, m, 0⟩ with
      | true =>
        simp(disch:=first|omega|(simp only[Wx];done)|(simp only[Wy];done)|(simp only[Wv];omega)|with_unfolding_all rfl)only[Wz,ptrTo,sliceTo]
        refine endT h5 (le4.trans le5) ?_
        unfold askR
        rw [if_pos (by rw [hf, hfit]; rfl)]
      | false =>
        simp(disch:=first|omega|(simp only[Wx];done)|(simp only[Wy];done)|(simp only[Wv];omega)|with_unfolding_all rfl)only[Wz,ptrTo,sliceTo]
        exact endF h5 (le4.trans le5) (noT fun h => by rw [hfit] at h; exact absurd h.2 (by decide))
end Go.Proofs

namespace Go.Proofs
open Go.Vai Go.Clashes
theorem c105a : ∀ i, i < 7 → ∀ j, j < 7 → answersS Tryz.prog 200 105 [.int .i64 (.ofNat i), .int .i64 (.ofNat j)] (.int .i64 (supM (.ofNat i) (.ofNat j))) = true := by decide +kernel
theorem c105b (n : Nat) (b : Int) : answersS Tryz.prog 200 105 [.int .i64 (.negSucc n), .int .i64 b] (.int .i64 0) = true := by kernel_rfl
theorem c105c (n : Nat) (b : Int) : answersS Tryz.prog 200 105 [.int .i64 (.ofNat (n + 7)), .int .i64 b] (.int .i64 0) = true := by kernel_rfl
theorem c105d : ∀ i, i < 7 → ∀ n : Nat, answersS Tryz.prog 200 105 [.int .i64 (.ofNat i), .int .i64 (.negSucc n)] (.int .i64 0) = true := by
  refine seven ?_ ?_ ?_ ?_ ?_ ?_ ?_ <;> intro n <;> kernel_rfl
theorem c105e : ∀ i, i < 7 → ∀ n : Nat, answersS Tryz.prog 200 105 [.int .i64 (.ofNat i), .int .i64 (.ofNat (n + 7))] (.int .i64 0) = true := by
  refine seven ?_ ?_ ?_ ?_ ?_ ?_ ?_ <;> intro n <;> kernel_rfl
theorem rsup_w (a b : Int) {h : Heap} {κ : Value → Heap → Prop} (hk : κ (.int .i64 (supM a b)) h) : CallW Tryz.prog 105 [.int .i64 a, .int .i64 b] h κ :=
  two_modes mixed (F := fun a b => .int .i64 (supM a b)) c105a (fun n b => by rw [supM_l (kn_neg n)]; exact c105b n b) (fun n b => by rw [supM_l (kn_big n)]; exact c105c n b) (fun i hi n => by rw [supM_r (kn_neg n)]; exact c105d i hi n) (fun i hi n => by rw [supM_r (kn_big n)]; exact c105e i hi n) a b hk
set_option maxHeartbeats 1000000 in
theorem rupgrade_w (t r : Int) (q : Value) (w d m : Int) (Q : List R5) (h : Heap) (κ : Value → Heap → Prop) (hq : Sl enc5 h q Q) (hlen : Q.length ≤ 10000) (hlo : h.lo ≤ h.nx) (hw : 0 ≤ w ∧ w ≤ 1000000) (hp : Q.Pairwise Beside)
    (hk2 : askedM m = false → ∀ h', Le h h' → κ (.tuple ⟨[hdV 0 0 (.slice none 0 0) 0, .bool false, .int .i64 2]⟩) h')
    (hk5 : askedM m = true → findQ Q d = none → ∀ h', Le h h' → κ (.tuple ⟨[hdV 0 0 (.slice none 0 0) 0, .bool false, .int .i64 5]⟩) h')
    (hk7 : askedM m = true → ∀ p, findQ Q d = some p → 0 < p.s → ∀ h', Le h h' → κ (.tuple ⟨[hdV 0 0 (.slice none 0 0) 0, .bool false, .int .i64 7]⟩) h')
    (hk0 : askedM m = true → ∀ i p, Q[i]? = some p → findQ Q d = some p → ¬ 0 < p.s → ∀ q' h', OwnR h h' q' (Q.set i (upgR Q w p m).1) → Le h h' → κ (.tuple ⟨[hdV t r q' (upgR Q w p m).2.1, .bool (upgR Q w p m).2.2, .int .i64 0]⟩) h') :
    CallW Tryz.prog 72 [hdV t r q w, .int .i64 d, .int .i64 m] h κ := by
  have hq' := hq
  obtain ⟨qx, qc, rfl, _⟩ := hq'
  refine callW_of mixed ?_
  rw [rs_72]
  simp(disch:=first|omega|(simp only[Wx];done)|(simp only[Wy];done)|(simp only[Wv];omega)|with_unfolding_all rfl)only[Wz,ptrTo,sliceTo, hdV]
  obtain ⟨hA, e_hA⟩ : ∃ hA : Heap, hA = ⟨h.nx + 1 + 1, ((h.bl.upd (h.nx) (cellsO [.int .i64 t, .int .i64 r, .slice qx Q.length qc, .int .i64 w] 56 false)).upd (h.nx + 1) (cellsO [.int .i64 0, .int .i64 0, .slice none 0 0, .int .i64 0] 56 false)), h.lo⟩ := ⟨_, rfl⟩
  have le_hA : Le h hA := by subst e_hA; exact (((Le.refl h).new _).new _)
  have g1 : hA.bl.get (h.nx) = some (cellsO [.int .i64 t, .int .i64 r, .slice qx Q.length qc, .int .i64 w] 56 false) := by subst e_hA; exact (T.get_updne _ _ (by omega)).trans (T.get_upd_same _ _ _)
  have g3 : hA.bl.get (h.nx + 1) = some (cellsO [.int .i64 0, .int .i64 0, .slice none 0 0, .int .i64 0] 56 false) := by subst e_hA; exact T.get_upd_same _ _ _
  have n_hA : hA.nx = h.nx + 1 + 1 := by subst e_hA; rfl
  have l_hA : hA.lo = h.lo := by subst e_hA; rfl
  rw [← e_hA]
  clear e_hA
  have hqA := hq.le le_hA
  refine raskedQ_w m ?_
  cases ha : askedM m with
  | false =>
    simp(disch:=first|omega|(simp only[Wx];done)|(simp only[Wy];done)|(simp only[Wv];omega)|with_unfolding_all rfl)only[Wz,ptrTo,sliceTo, g3]
    exact hk2 ha _ (le_hA.set (b := h.nx + 1) (by omega) _)
  | true =>
  simp(disch:=first|omega|(simp only[Wx];done)|(simp only[Wy];done)|(simp only[Wv];omega)|with_unfolding_all rfl)only[Wz,ptrTo,sliceTo, rs_72_4, g1]
  refine rat_w t r _ w d Q hA _ hqA (by omega) (by omega) ?_
  intro h1 le1
  have n_le1 := le1.nx
  have l_le1 := le1.lo
  have g1 := (le1.get _ (by omega)).trans g1
  have g3 := (le1.get _ (by omega)).trans g3
  have hq1 := hqA.le le1
  rcases place_cases Q d with ⟨e, e2⟩ | ⟨i, p, e, hi, hjd, e2⟩
  · rw [e]
    simp(disch:=first|omega|(simp only[Wx];done)|(simp only[Wy];done)|(simp only[Wv];omega)|with_unfolding_all rfl)only[Wz,ptrTo,sliceTo, optI, lt_t (show (-1 : Int) < 0 by decide), g3]
    exact hk5 ha e2 _ ((le_hA.trans le1).set (b := h.nx + 1) (by omega) _)
  rw [e]
  obtain ⟨b, o, hb, hat, hld⟩ := ld5 hq1 i hi
  simp(disch:=first|omega|(simp only[Wx];done)|(simp only[Wy];done)|(simp only[Wv];omega)|with_unfolding_all rfl)only[Wz,ptrTo,sliceTo, optI, lt_f (show (0 : Int) ≤ (i : Int) by omega), rs_72_3, g1, hat, hld]
  refine rwaits_w p ?_
  by_cases hs : 0 < p.s
  · simp(disch:=first|omega|(simp only[Wx];done)|(simp only[Wy];done)|(simp only[Wv];omega)|with_unfolding_all rfl)only[Wz,ptrTo,sliceTo, dec_t hs, g3]
    exact hk7 ha p e2 hs _ ((le_hA.trans le1).set (b := h.nx + 1) (by omega) _)
  simp(disch:=first|omega|(simp only[Wx];done)|(simp only[Wy];done)|(simp only[Wv];omega)|with_unfolding_all rfl)only[Wz,ptrTo,sliceTo, dec_f hs, rs_72_2, g1]
  refine rcopied_w t r _ w Q h1 _ hq1 (by omega) (by omega) ?_
  intro q2 h2 ho2 le2
  have n_le2 := le2.nx
  have l_le2 := le2.lo
  have g1 := (le2.get _ (by omega)).trans g1
  have g3 := (le2.get _ (by omega)).trans g3
  obtain ⟨qx2, qc2, rfl, _⟩ := ho2.sl
  obtain ⟨b', o', hb', hat', hld'⟩ := ld5 (hq1.le le2) i hi
  simp(disch:=first|omega|(simp only[Wx];done)|(simp only[Wy];done)|(simp only[Wv];omega)|with_unfolding_all rfl)only[Wz,ptrTo,sliceTo, hdV, g1, hat', hld']
  obtain ⟨hB, e_hB⟩ : ∃ hB : Heap, hB = ⟨h2.nx + 1, (h2.bl.upd (h2.nx) (cellsO [.int .i64 t, .int .i64 r, .slice qx2 Q.length qc2, .int .i64 w] 56 false)), h2.lo⟩ := ⟨_, rfl⟩
  have le_hB : Le h2 hB := by subst e_hB; exact ((Le.refl h2).new _)
  have g5 : hB.bl.get (h2.nx) = some (cellsO [.int .i64 t, .int .i64 r, .slice qx2 Q.length qc2, .int .i64 w] 56 false) := by subst e_hB; exact T.get_upd_same _ _ _
  have n_hB : hB.nx = h2.nx + 1 := by subst e_hB; rfl
  have l_hB : hB.lo = h2.lo := by subst e_hB; rfl
  rw [← e_hB]
  clear e_hB
  have n_le_hB := le_hB.nx
  have l_le_hB := le_hB.lo
  have g1 := (le_hB.get _ (by omega)).trans g1
  have g3 := (le_hB.get _ (by omega)).trans g3
  obtain ⟨wt, ewt⟩ : ∃ wt, supM p.m m = wt := ⟨_, rfl⟩
  have hoB := ho2.le le_hB
  have hqB := (hq1.le le2).le le_hB
  refine rsup_w _ _ ?_
  rw [ewt]
  rcases hoB with ⟨rfl, _⟩ | ⟨bo, e1, k1, k2, k3, k4⟩
  · simp at hi
  cases e1
  have hil : i < Q.length := (List.getElem?_eq_some_iff.1 hi).1
  have hfl := flat_length (enc := enc5) enc5_len Q
  obtain ⟨p1, ep1⟩ : ∃ p1 : R5, p1 = ⟨p.id, p.x, p.m, wt, p.s⟩ := ⟨_, rfl⟩
  have hov := over_field (p' := p1) (ws := [.int .i64 wt]) (j := 3) enc5_len hi (by show 3 + 1 ≤ 5; omega) (by rw [ep1]; rfl)
  have hp2 : (Q.set i p1)[i]? = some p1 := by rw [List.getElem?_set, if_pos rfl, if_pos hil]
  have hfl2 : ((Q.set i p1).flatMap enc5).length = Q.length * 5 := by rw [flat_length enc5_len, List.length_set]
  have hne1 : bo ≠ h2.nx := by rintro rfl; rw [g5] at k4; exact cells_op k4
  have hne2 : bo ≠ h.nx + 1 := by rintro rfl; rw [g3] at k4; exact cells_op k4
  have hne3 : bo ≠ h.nx := by rintro rfl; rw [g1] at k4; exact cells_op k4
  simp(disch:=first|omega|(simp only[Wx];done)|(simp only[Wy];done)|(simp only[Wv];omega)|with_unfolding_all rfl)only[Wz,ptrTo,sliceTo, g5, indexAddr_eq, k4, hov, g1]
  obtain ⟨hC, eC⟩ : ∃ hC : Heap, hC = ⟨hB.nx, hB.bl.upd bo (cellsO ((Q.set i p1).flatMap enc5) 47 true), hB.lo⟩ := ⟨_, rfl⟩
  have leC : Le h1 hC := by rw [eC]; exact (le2.trans le_hB).set k1 _
  have nC : hC.nx = hB.nx := by rw [eC]
  have lC : hC.lo = hB.lo := by rw [eC]
  have gC : hC.bl.get bo = some (cellsO ((Q.set i p1).flatMap enc5) 47 true) := by rw [eC]; exact T.get_upd_same _ _ _
  have g1 : hC.bl.get h.nx = some (cellsO [.int .i64 t, .int .i64 r, .slice qx Q.length qc, .int .i64 w] 56 false) := by rw [eC]; exact (T.get_updne _ _ hne3).trans g1
  have g3 : hC.bl.get (h.nx + 1) = some (cellsO [.int .i64 0, .int .i64 0, .slice none 0 0, .int .i64 0] 56 false) := by rw [eC]; exact (T.get_updne _ _ hne2).trans g3
  have g5 : hC.bl.get h2.nx = some (cellsO [.int .i64 t, .int .i64 r, .slice (some ⟨bo, 0, none⟩) Q.length openCap, .int .i64 w] 56 false) := by rw [eC]; exact (T.get_updne _ _ hne1).trans g5
  rw [← eC]
  clear eC
  have hqC := hq1.le leC
  have le0C := (le_hA.trans le1).trans leC
  have fin1 : ∀ (hD : Heap), Le hC hD → upgR Q w p m = (⟨p.id, p.x, wt, wt, p.s⟩, w, true) → rs_72_0 h2.nx (.int .i64 (i : Int)) (.int .i64 wt) (h.nx + 1) hD κ := by
    intro hD leD he
    have n_leD := leD.nx
    have l_leD := leD.lo
    have gC := (leD.get _ (by omega)).trans gC
    have g3 := (leD.get _ (by omega)).trans g3
    have g5 := (leD.get _ (by omega)).trans g5
    have key := hk0 ha i p hi e2 hs
    rw [he] at key
    have hov2 := over_field (p' := ⟨p.id, p.x, wt, wt, p.s⟩) (ws := [.int .i64 wt]) (j := 2) enc5_len hp2 (by show 2 + 1 ≤ 5; omega) (by rw [ep1]; rfl)
    rw [List.set_set] at hov2
    simp(disch:=first|omega|(simp only[Wx];done)|(simp only[Wy];done)|(simp only[Wv];omega)|with_unfolding_all rfl)only[Wz,ptrTo,sliceTo, rs_72_0, g5, indexAddr_eq, gC, hov2, g3]
    refine key _ _ (.inr ⟨bo, by rw [List.length_set], by omega, by show bo < hD.nx; omega, by show hD.lo ≤ bo; omega, ?_⟩) ?_
    · exact (T.get_updne _ _ (fun e => hne2 e.symm)).trans (T.get_upd_same _ _ _)
    · exact ((le0C.trans leD).set (b := bo) (by omega) _).set (b := h.nx + 1) (by omega) _
  have fin2 : ∀ (hD : Heap), Le hC hD → upgR Q w p m = (⟨p.id, p.x, p.m, wt, w + 1⟩, w + 1, false) → rs_72_1 h2.nx (.int .i64 (i : Int)) (h.nx + 1) hD κ := by
    intro hD leD he
    have n_leD := leD.nx
    have l_leD := leD.lo
    have gC := (leD.get _ (by omega)).trans gC
    have g3 := (leD.get _ (by omega)).trans g3
    have g5 := (leD.get _ (by omega)).trans g5
    have key := hk0 ha i p hi e2 hs
    rw [he] at key
    have hov2 := over_field (p' := ⟨p.id, p.x, p.m, wt, w + 1⟩) (ws := [.int .i64 (w + 1)]) (j := 4) enc5_len hp2 (by show 4 + 1 ≤ 5; omega) (by rw [ep1]; rfl)
    rw [List.set_set] at hov2
    simp(disch:=first|omega|(simp only[Wx];done)|(simp only[Wy];done)|(simp only[Wv];omega)|with_unfolding_all rfl)only[Wz,ptrTo,sliceTo, rs_72_1, g5, indexAddr_eq, gC, hov2, g3]
    refine key _ _ (.inr ⟨bo, by rw [List.length_set], by omega, by show bo < hD.nx; omega, by show hD.lo ≤ bo; omega, ?_⟩) ?_
    · exact (T.get_updne _ _ (fun e => hne2 e.symm)).trans (T.get_upd_same _ _ _)
    · exact (((le0C.trans leD).set (b := h2.nx) (by omega) _).set (b := bo) (by omega) _).set (b := h.nx + 1) (by omega) _
  obtain ⟨b3, o3, hb3, hat3, hld3⟩ := ld5 hqC i hi
  have noT : ¬ (fitsQ Q ⟨p.id, p.x, p.m, wt, p.s⟩ = true ∧ Q.any upR = false) → wt ≠ p.m → upgR Q w p m = (⟨p.id, p.x, p.m, wt, w + 1⟩, w + 1, false) := by
    intro hc hne
    unfold upgR
    rw [ewt, if_neg]
    rw [Bool.or_eq_true, decide_eq_true_eq, Bool.and_eq_true, Bool.not_eq_true']
    rintro (h | h)
    · exact hne h
    · exact hc h
  by_cases hq1 : wt = p.m
  · simp(disch:=first|omega|(simp only[Wx];done)|(simp only[Wy];done)|(simp only[Wv];omega)|with_unfolding_all rfl)only[Wz,ptrTo,sliceTo, hat3, hld3, dec_t hq1]
    exact fin1 hC (Le.refl _) (by unfold upgR; rw [ewt, if_pos (by simp [hq1])])
  simp(disch:=first|omega|(simp only[Wx];done)|(simp only[Wy];done)|(simp only[Wv];omega)|with_unfolding_all rfl)only[Wz,ptrTo,sliceTo, hat3, hld3, dec_f hq1, g1]
  refine rfits_w t r _ w wt i Q hC _ hqC (by omega) (by omega) ?_
  intro h4 le4
  have n_le4 := le4.nx
  have l_le4 := le4.lo
  have g1 := (le4.get _ (by omega)).trans g1
  rw [fitsN_at hp hi]
  cases hft : fitsQ Q ⟨p.id, p.x, p.m, wt, p.s⟩ with
  | false =>
    simp(disch:=first|omega|(simp only[Wx];done)|(simp only[Wy];done)|(simp only[Wv];omega)|with_unfolding_all rfl)only[Wz,ptrTo,sliceTo]
    exact fin2 h4 le4 (noT (fun h => by rw [hft] at h; exact absurd h.1 (by decide)) hq1)
  | true =>
    simp(disch:=first|omega|(simp only[Wx];done)|(simp only[Wy];done)|(simp only[Wv];omega)|with_unfolding_all rfl)only[Wz,ptrTo,sliceTo, g1]
    refine rup_w t r _ w Q h4 _ (hqC.le le4) (by omega) (by omega) ?_
    intro h5 le5
    cases hb : best Q Q.length with
    | some b9 =>
      have hany : Q.any upR = true := best_any.2 ⟨b9, hb⟩
      simp(disch:=first|omega|(simp only[Wx];done)|(simp only[Wy];done)|(simp only[Wv];omega)|with_unfolding_all rfl)only[Wz,ptrTo,sliceTo, optI, lt_f (show (0 : Int) ≤ (b9 : Int) by omega)]
      exact fin2 h5 (le4.trans le5) (noT (fun h => by rw [hany] at h; exact absurd h.2 (by decide)) hq1)
    | none =>
      have hany : Q.any upR = false := by
        cases ha : Q.any upR with
        | false => rfl
        | true => obtain ⟨b, hb'⟩ := best_any.1 ha; rw [hb] at hb'; cases hb'
      simp(disch:=first|omega|(simp only[Wx];done)|(simp only[Wy];done)|(simp only[Wv];omega)|with_unfolding_all rfl)only[Wz,ptrTo,sliceTo, optI, lt_t (show (-1 : Int) < 0 by decide)]
      refine fin1 h5 (le4.trans le5) ?_
      unfold upgR
      rw [ewt, if_pos]
      rw [hft, hany]; simp
end Go.Proofs

namespace Go.Proofs
open Go.Vai Go.Clashes
theorem rhand_w (t r : Int) (q : Value) (w d x : Int) (Q : List R5) (h : Heap) (κ : Value → Heap → Prop) (hq : Sl enc5 h q Q) (hlen : Q.length ≤ 10000) (hlo : h.lo ≤ h.nx) (hp : Q.Pairwise Beside) {i : Nat} {p : R5} (hi : Q[i]? = some p) (hid : p.id = d)
    (hk4 : (∃ o ∈ Q, o.id ≠ d ∧ o.x = x) → ∀ h', Le h h' → κ (.tuple ⟨[hdV 0 0 (.slice none 0 0) 0, .int .i64 4]⟩) h')
    (hk7 : (∀ o ∈ Q, o.id ≠ d → o.x ≠ x) → 0 < p.s → ∀ h', Le h h' → κ (.tuple ⟨[hdV 0 0 (.slice none 0 0) 0, .int .i64 7]⟩) h')
    (hk0 : (∀ o ∈ Q, o.id ≠ d → o.x ≠ x) → ¬ 0 < p.s → ∀ q' h', OwnR h h' q' (Q.set i (handR p x)) → Le h h' → κ (.tuple ⟨[hdV t r q' w, .int .i64 0]⟩) h') :
    CallW Tryz.prog 79 [hdV t r q w, .int .i64 d, .int .i64 x] h κ := by
  have hq' := hq
  obtain ⟨qx, qc, rfl, _⟩ := hq'
  have hil : i < Q.length := (List.getElem?_eq_some_iff.1 hi).1
  refine callW_of mixed ?_
  rw [rs_79]
  simp(disch:=first|omega|(simp only[Wx];done)|(simp only[Wy];done)|(simp only[Wv];omega)|with_unfolding_all rfl)only[Wz,ptrTo,sliceTo, hdV]
  obtain ⟨hA, e_hA⟩ : ∃ hA : Heap, hA = ⟨h.nx + 1 + 1, ((h.bl.upd (h.nx) (cellsO [.int .i64 t, .int .i64 r, .slice qx Q.length qc, .int .i64 w] 56 false)).upd (h.nx + 1) (cellsO [.int .i64 0, .int .i64 0, .slice none 0 0, .int .i64 0] 56 false)), h.lo⟩ := ⟨_, rfl⟩
  have le_hA : Le h hA := by subst e_hA; exact (((Le.refl h).new _).new _)
  have g1 : hA.bl.get (h.nx) = some (cellsO [.int .i64 t, .int .i64 r, .slice qx Q.length qc, .int .i64 w] 56 false) := by subst e_hA; exact (T.get_updne _ _ (by omega)).trans (T.get_upd_same _ _ _)
  have g3 : hA.bl.get (h.nx + 1) = some (cellsO [.int .i64 0, .int .i64 0, .slice none 0 0, .int .i64 0] 56 false) := by subst e_hA; exact T.get_upd_same _ _ _
  have n_hA : hA.nx = h.nx + 1 + 1 := by subst e_hA; rfl
  have l_hA : hA.lo = h.lo := by subst e_hA; rfl
  rw [← e_hA]
  clear e_hA
  have hqA := hq.le le_hA
  refine rat_w t r _ w d Q hA _ hqA (by omega) (by omega) ?_
  intro h1 le1
  have n_le1 := le1.nx
  have l_le1 := le1.lo
  have g1 := (le1.get _ (by omega)).trans g1
  have g3 := (le1.get _ (by omega)).trans g3
  have hq1 := hqA.le le1
  have efind : Q.findIdx? (placeR d) = some i := by
    refine find_first hi (show placeR d p = true from dec_t hid) fun j o hj ho => ?_
    exact dec_f fun e => by have := ids_at hp ho hi (e.trans hid.symm); omega
  rw [efind]
  simp(disch:=first|omega|(simp only[Wx];done)|(simp only[Wy];done)|(simp only[Wv];omega)|with_unfolding_all rfl)only[Wz,ptrTo,sliceTo, optI, lt_f (show (0 : Int) ≤ (i : Int) by omega)]
  refine ⟨fun n l h' => ∃ k : Nat, slot l 22 = .int .i64 (k : Int) ∧ (∀ (j : Nat) (o : R5), j < k → Q[j]? = some o → o.id ≠ d → o.x ≠ x) ∧ k ≤ Q.length ∧ n = Q.length - k ∧ HQ h1 h', ⟨_, 0, rfl, fun j o h => (by omega), Nat.zero_le _, rfl, rfl⟩, ?_⟩
  rintro n l h' ⟨k, s1, hn, hk, rfl, hle⟩
  cases (show h1 = h' from hle)
  by_cases hlt : k < Q.length
  · obtain ⟨o, ho⟩ : ∃ o, Q[k]? = some o := ⟨_, List.getElem?_eq_getElem hlt⟩
    obtain ⟨b, o', hb, hat, hld⟩ := ld5 hq1 k ho
    by_cases hki : (k : Int) = (i : Int)
    · simp(disch:=first|omega|(simp only[Wx];done)|(simp only[Wy];done)|(simp only[Wv];omega)|with_unfolding_all rfl)only[Wz,ptrTo,sliceTo, rs_79_3, s1, g1, lt_t (show (k : Int) < (Q.length : Int) by omega), rs_79_1, dec_t hki]
      refine ⟨_, by omega, k + 1, rfl, fun j o1 hj ho1 hd => ?_, by omega, rfl, rfl⟩
      by_cases hjk : j = k
      · subst hjk
        have : j = i := by omega
        subst this
        rw [hi] at ho1; cases ho1; exact absurd hid hd
      · exact hn j o1 (by omega) ho1 hd
    · have hod : o.id ≠ d := fun e => hki (by have := ids_at hp ho hi (e.trans hid.symm); omega)
      by_cases hox : o.x = x
      · simp(disch:=first|omega|(simp only[Wx];done)|(simp only[Wy];done)|(simp only[Wv];omega)|with_unfolding_all rfl)only[Wz,ptrTo,sliceTo, rs_79_3, s1, g1, lt_t (show (k : Int) < (Q.length : Int) by omega), rs_79_1, dec_f hki, hat, hld, dec_t hox, g3]
        exact hk4 ⟨o, List.mem_of_getElem? ho, hod, hox⟩ _ ((le_hA.trans le1).set (b := h.nx + 1) (by omega) _)
      · simp(disch:=first|omega|(simp only[Wx];done)|(simp only[Wy];done)|(simp only[Wv];omega)|with_unfolding_all rfl)only[Wz,ptrTo,sliceTo, rs_79_3, s1, g1, lt_t (show (k : Int) < (Q.length : Int) by omega), rs_79_1, dec_f hki, hat, hld, dec_f hox]
        refine ⟨_, by omega, k + 1, rfl, fun j o1 hj ho1 hd => ?_, by omega, rfl, rfl⟩
        by_cases hjk : j = k
        · subst hjk; rw [ho] at ho1; cases ho1; exact hox
        · exact hn j o1 (by omega) ho1 hd
  have hkl : k = Q.length := by omega
  subst hkl
  have hno : ∀ o ∈ Q, o.id ≠ d → o.x ≠ x := by
    intro o ho hd
    obtain ⟨j, hj⟩ := List.getElem?_of_mem ho
    exact hn j o (List.getElem?_eq_some_iff.1 hj).1 hj hd
  obtain ⟨b, o', hb, hat, hld⟩ := ld5 hq1 i hi
  simp(disch:=first|omega|(simp only[Wx];done)|(simp only[Wy];done)|(simp only[Wv];omega)|with_unfolding_all rfl)only[Wz,ptrTo,sliceTo, rs_79_3, s1, g1, lt_f (show (Q.length : Int) ≤ (Q.length : Int) by omega), rs_79_2, hat, hld]
  refine rwaits_w p ?_
  by_cases hs : 0 < p.s
  · simp(disch:=first|omega|(simp only[Wx];done)|(simp only[Wy];done)|(simp only[Wv];omega)|with_unfolding_all rfl)only[Wz,ptrTo,sliceTo, dec_t hs, g3]
    exact hk7 hno hs _ ((le_hA.trans le1).set (b := h.nx + 1) (by omega) _)
  simp(disch:=first|omega|(simp only[Wx];done)|(simp only[Wy];done)|(simp only[Wv];omega)|with_unfolding_all rfl)only[Wz,ptrTo,sliceTo, dec_f hs, rs_79_0, g1]
  refine rcopied_w t r _ w Q h1 _ hq1 (by omega) (by omega) ?_
  intro q2 h2 ho2 le2
  have n_le2 := le2.nx
  have l_le2 := le2.lo
  have g1 := (le2.get _ (by omega)).trans g1
  have g3 := (le2.get _ (by omega)).trans g3
  rcases ho2 with ⟨rfl, _⟩ | ⟨bo, rfl, k1, k2, k3, k4⟩
  · simp at hi
  have hfl := flat_length (enc := enc5) enc5_len Q
  have hov := over_field (p' := handR p x) (ws := [.int .i64 x]) (j := 1) enc5_len hi (by show 1 + 1 ≤ 5; omega) rfl
  have hne2 : bo ≠ h.nx + 1 := by rintro rfl; rw [g3] at k4; exact cells_op k4
  simp(disch:=first|omega|(simp only[Wx];done)|(simp only[Wy];done)|(simp only[Wv];omega)|with_unfolding_all rfl)only[Wz,ptrTo,sliceTo, hdV, indexAddr_eq, k4, hov, g3]
  refine hk0 hno hs _ _ (.inr ⟨bo, by rw [List.length_set], by omega, by show bo < h2.nx + 1; omega, by show h2.lo ≤ bo; omega, ?_⟩) ?_
  · exact (T.get_updne _ _ (fun e => hne2 e.symm)).trans (T.get_upd_same _ _ _)
  · exact ((((le_hA.trans le1).trans le2).new _).set (b := bo) (by omega) _).set (b := h.nx + 1) (by omega) _
theorem rwithout_w (t r : Int) (q : Value) (w : Int) (i : Nat) (Q : List R5) (a h : Heap) (κ : Value → Heap → Prop) (hq : OwnR a h q Q) (hlen : Q.length ≤ 10000) (hlo : h.lo ≤ h.nx) (hil : i < Q.length)
    (hk : ∀ q' h', QV h' q' (Q.take i ++ Q.drop (i + 1)) → Le h h' → κ (hdV t r q' w) h') :
    CallW Tryz.prog 106 [hdV t r q w, .int .i64 (i : Int)] h κ := by
  obtain ⟨qx, qc, rfl, _⟩ := hq.sl
  refine callW_of mixed ?_
  rw [rs_106]
  simp(disch:=first|omega|(simp only[Wx];done)|(simp only[Wy];done)|(simp only[Wv];omega)|with_unfolding_all rfl)only[Wz,ptrTo,sliceTo, hdV]
  obtain ⟨hA, e_hA⟩ : ∃ hA : Heap, hA = ⟨h.nx + 1 + 1, ((h.bl.upd (h.nx) (cellsO [.int .i64 t, .int .i64 r, .slice qx Q.length qc, .int .i64 w] 56 false)).upd (h.nx + 1) (cellsO [.int .i64 0, .int .i64 0, .slice none 0 0, .int .i64 0] 56 false)), h.lo⟩ := ⟨_, rfl⟩
  have le_hA : Le h hA := by subst e_hA; exact (((Le.refl h).new _).new _)
  have g1 : hA.bl.get (h.nx) = some (cellsO [.int .i64 t, .int .i64 r, .slice qx Q.length qc, .int .i64 w] 56 false) := by subst e_hA; exact (T.get_updne _ _ (by omega)).trans (T.get_upd_same _ _ _)
  have g3 : hA.bl.get (h.nx + 1) = some (cellsO [.int .i64 0, .int .i64 0, .slice none 0 0, .int .i64 0] 56 false) := by subst e_hA; exact T.get_upd_same _ _ _
  have n_hA : hA.nx = h.nx + 1 + 1 := by subst e_hA; rfl
  have l_hA : hA.lo = h.lo := by subst e_hA; rfl
  rw [← e_hA]
  clear e_hA
  have hqA := hq.le le_hA
  refine rcopied_w t r _ w Q hA _ hqA.sl (by omega) (by omega) ?_
  intro q2 h2 ho2 le2
  have n_le2 := le2.nx
  have l_le2 := le2.lo
  have g1 := (le2.get _ (by omega)).trans g1
  have g3 := (le2.get _ (by omega)).trans g3
  have hq2 := hqA.le le2
  rcases ho2 with ⟨rfl, _⟩ | ⟨bo, rfl, k1, k2, k3, k4⟩
  · simp at hil
  have hfl := flat_length (enc := enc5) enc5_len Q
  obtain ⟨hB, eB⟩ : ∃ hB : Heap, hB = ⟨h2.nx + 1, h2.bl.upd h2.nx (cellsO [.int .i64 t, .int .i64 r, .slice (some ⟨bo, 0, none⟩) Q.length openCap, .int .i64 w] 56 false), h2.lo⟩ := ⟨_, rfl⟩
  have leB : Le h2 hB := by rw [eB]; exact (Le.refl h2).new _
  have g5 : hB.bl.get h2.nx = some (cellsO [.int .i64 t, .int .i64 r, .slice (some ⟨bo, 0, none⟩) Q.length openCap, .int .i64 w] 56 false) := by rw [eB]; exact T.get_upd_same _ _ _
  have nB : hB.nx = h2.nx + 1 := by rw [eB]
  have lB : hB.lo = h2.lo := by rw [eB]
  have k4 := (leB.get _ k2).trans k4
  have g1 := (leB.get _ (by omega)).trans g1
  have g3 := (leB.get _ (by omega)).trans g3
  have e0 : ∀ {β : Type} {fl : β} (κ : Value → Heap → β), sliceB fl 47 5 (.slice (some ⟨bo, 0, none⟩) Q.length openCap) none (some (.int .i64 (i : Int))) none hB κ = κ (.slice (some ⟨bo, 0, none⟩) i openCap) hB := fun κ => slice_to (by decide) k4 hfl (by omega) (by omega) κ
  obtain ⟨u, hu, eu⟩ := (hq2.le leB).tail enc5_len (by decide) (i + 1) (by omega)
  have ei : (i : Int) + 1 = ((i + 1 : Nat) : Int) := by omega
  simp(disch:=first|omega|(simp only[Wx];done)|(simp only[Wy];done)|(simp only[Wv];omega)|with_unfolding_all rfl)only[Wz,ptrTo,sliceTo, hdV]
  rw [← eB]
  simp(disch:=first|omega|(simp only[Wx];done)|(simp only[Wy];done)|(simp only[Wv];omega)|with_unfolding_all rfl)only[Wz,ptrTo,sliceTo, g5, g1, e0, ei, eu]
  clear eB
  have hML : (Q.drop (i + 1)).length = Q.length - (i + 1) := List.length_drop
  have hT : (Q.take i).length = i := by rw [List.length_take]; omega
  obtain ⟨M, eM⟩ : ∃ M, Q.drop (i + 1) = M := ⟨_, rfl⟩
  rw [eM] at hu hML hk
  have hne1 : bo ≠ h2.nx := by omega
  have hne2 : bo ≠ h.nx + 1 := by omega
  have le0B := (le_hA.trans le2).trans leB
  by_cases hM : M = []
  · rw [append_nil (α := R5) (enc := enc5) (by rw [hM] at hu; exact hu) ⟨_, _, _, rfl⟩]
    simp(disch:=first|omega|(simp only[Wx];done)|(simp only[Wy];done)|(simp only[Wv];omega)|with_unfolding_all rfl)only[Wz,ptrTo,sliceTo, g5, g3]
    refine hk _ _ ?_ ((le0B.set (b := h2.nx) (by omega) _).set (b := h.nx + 1) (by omega) _)
    have ty : ((hB.bl.upd h2.nx (cellsO [.int .i64 t, .int .i64 r, .slice (some ⟨bo, 0, none⟩) i openCap, .int .i64 w] 56 false)).upd (h.nx + 1) (cellsO [.int .i64 t, .int .i64 r, .slice (some ⟨bo, 0, none⟩) i openCap, .int .i64 w] 56 false)).get bo = some (cellsO (Q.flatMap enc5) 47 true) :=
      (T.get_updne _ _ (fun e => hne2 e.symm)).trans ((T.get_updne _ _ (fun e => hne1 e.symm)).trans k4)
    refine ⟨?_, fun b' o' n' c' hv _ => by cases hv; exact ⟨by show bo < hB.nx; omega, _, _, ty⟩⟩
    refine ⟨_, openCap, by rw [hM, List.append_nil, hT], fun _ => ⟨bo, 0, rfl, by show bo < hB.nx; omega, ?_⟩⟩
    show Has (((hB.bl.upd h2.nx _).upd (h.nx + 1) _).get bo) 0 _
    rw [T.get_updne _ _ (fun e => hne2 e.symm), T.get_updne _ _ (fun e => hne1 e.symm), k4, hM, List.append_nil, ← flat_take' enc5_len]
    have := Has.cells (vs := Q.flatMap enc5) (e := 47) (op := true) (o := 0) (k := i * 5) (by omega)
    rw [List.drop_zero] at this
    exact this
  · refine append_place (enc := enc5) (vs := Q.flatMap enc5) enc5_len enc5_one hu hM k4 (by omega) (by rw [hfl, hML]; omega) (by omega) _ ?_
    simp(disch:=first|omega|(simp only[Wx];done)|(simp only[Wy];done)|(simp only[Wv];omega)|with_unfolding_all rfl)only[Wz,ptrTo,sliceTo, g5, g3]
    refine hk _ _ ?_ (((le0B.set (b := bo) (by omega) _).set (b := h2.nx) (by omega) _).set (b := h.nx + 1) (by omega) _)
    have ty : ∀ o1 o2, (((hB.bl.upd bo (cellsO (over (Q.flatMap enc5) (i * 5) (M.flatMap enc5)) 47 true)).upd h2.nx o1).upd (h.nx + 1) o2).get bo = some (cellsO (over (Q.flatMap enc5) (i * 5) (M.flatMap enc5)) 47 true) :=
      fun o1 o2 => (T.get_updne _ _ (fun e => hne2 e.symm)).trans ((T.get_updne _ _ (fun e => hne1 e.symm)).trans (T.get_upd_same _ _ _))
    refine ⟨?_, fun b' o' n' c' hv _ => by cases hv; exact ⟨by show bo < hB.nx; omega, _, _, ty _ _⟩⟩
    refine ⟨_, openCap, by rw [List.length_append, hT], fun _ => ⟨bo, 0, rfl, by show bo < hB.nx; omega, ?_⟩⟩
    show Has ((((hB.bl.upd bo _).upd h2.nx _).upd (h.nx + 1) _).get bo) 0 _
    rw [T.get_updne _ _ (fun e => hne2 e.symm), T.get_updne _ _ (fun e => hne1 e.symm), T.get_upd_same]
    have hfm := flat_length (enc := enc5) enc5_len M
    have hol : (over (Q.flatMap enc5) (i * 5) (M.flatMap enc5)).length = Q.length * 5 := by rw [over_length (by rw [hfm, hfl]; omega), hfl]
    have := Has.cells (vs := over (Q.flatMap enc5) (i * 5) (M.flatMap enc5)) (e := 47) (op := true) (o := 0) (k := (i + M.length) * 5) (by rw [hol, hML]; omega)
    rw [List.drop_zero] at this
    have e9 : (over (Q.flatMap enc5) (i * 5) (M.flatMap enc5)).take ((i + M.length) * 5) = (Q.take i ++ M).flatMap enc5 := by
      unfold over
      rw [flat_take' enc5_len, List.take_append_of_le_length (by rw [List.length_append, flat_length enc5_len, flat_length enc5_len, hT]; omega), List.take_of_length_le (by rw [List.length_append, flat_length enc5_len, flat_length enc5_len, hT]; omega), List.flatMap_append]
    rw [e9] at this
    exact this
theorem rleave_w (t r : Int) (q : Value) (w d : Int) (Q : List R5) (a h : Heap) (κ : Value → Heap → Prop) (hq : OwnR a h q Q) (hlen : Q.length ≤ 10000) (hlo : h.lo ≤ h.nx) (hp : Q.Pairwise Beside) {i : Nat} {p : R5} (hi : Q[i]? = some p) (hid : p.id = d)
    (hk : ∀ q' h', QV h' q' (Q.filter fun r => !placeR d r) → Le h h' → κ (.tuple ⟨[hdV t r q' w, .int .i64 0]⟩) h') :
    CallW Tryz.prog 73 [hdV t r q w, .int .i64 d] h κ := by
  obtain ⟨qx, qc, rfl, _⟩ := hq.sl
  have hil : i < Q.length := (List.getElem?_eq_some_iff.1 hi).1
  refine callW_of mixed ?_
  rw [rs_73]
  simp(disch:=first|omega|(simp only[Wx];done)|(simp only[Wy];done)|(simp only[Wv];omega)|with_unfolding_all rfl)only[Wz,ptrTo,sliceTo, hdV]
  obtain ⟨hA, e_hA⟩ : ∃ hA : Heap, hA = ⟨h.nx + 1 + 1, ((h.bl.upd (h.nx) (cellsO [.int .i64 t, .int .i64 r, .slice qx Q.length qc, .int .i64 w] 56 false)).upd (h.nx + 1) (cellsO [.int .i64 0, .int .i64 0, .slice none 0 0, .int .i64 0] 56 false)), h.lo⟩ := ⟨_, rfl⟩
  have le_hA : Le h hA := by subst e_hA; exact (((Le.refl h).new _).new _)
  have g1 : hA.bl.get (h.nx) = some (cellsO [.int .i64 t, .int .i64 r, .slice qx Q.length qc, .int .i64 w] 56 false) := by subst e_hA; exact (T.get_updne _ _ (by omega)).trans (T.get_upd_same _ _ _)
  have g3 : hA.bl.get (h.nx + 1) = some (cellsO [.int .i64 0, .int .i64 0, .slice none 0 0, .int .i64 0] 56 false) := by subst e_hA; exact T.get_upd_same _ _ _
  have n_hA : hA.nx = h.nx + 1 + 1 := by subst e_hA; rfl
  have l_hA : hA.lo = h.lo := by subst e_hA; rfl
  rw [← e_hA]
  clear e_hA
  have hqA := hq.le le_hA
  refine rat_w t r _ w d Q hA _ hqA.sl (by omega) (by omega) ?_
  intro h1 le1
  have n_le1 := le1.nx
  have l_le1 := le1.lo
  have g1 := (le1.get _ (by omega)).trans g1
  have g3 := (le1.get _ (by omega)).trans g3
  have efind : Q.findIdx? (placeR d) = some i := by
    refine find_first hi (show placeR d p = true from dec_t hid) fun j o hj ho => ?_
    exact dec_f fun e => by have := ids_at hp ho hi (e.trans hid.symm); omega
  rw [efind]
  simp(disch:=first|omega|(simp only[Wx];done)|(simp only[Wy];done)|(simp only[Wv];omega)|with_unfolding_all rfl)only[Wz,ptrTo,sliceTo, optI, lt_f (show (0 : Int) ≤ (i : Int) by omega), g1]
  refine rwithout_w t r _ w i Q a h1 _ (hqA.le le1) hlen (by omega) hil ?_
  intro q2 h2 hq2 le2
  have n_le2 := le2.nx
  have l_le2 := le2.lo
  have g3 := (le2.get _ (by omega)).trans g3
  have hsl := hq2.1
  obtain ⟨qx2, qc2, rfl, _⟩ := hsl
  rw [← erase_id hp hi, hid] at hq2
  simp(disch:=first|omega|(simp only[Wx];done)|(simp only[Wy];done)|(simp only[Wv];omega)|with_unfolding_all rfl)only[Wz,ptrTo,sliceTo, hdV, g3]
  have el : (List.take i Q ++ List.drop (i + 1) Q).length = (Q.filter fun r => !placeR d r).length := by rw [← hid, erase_id hp hi]
  rw [el]
  exact hk _ _ (hq2.put (fun vs op => by rw [g3]; exact cells_ty (by decide)) _) (((le_hA.trans le1).trans le2).set (b := h.nx + 1) (by omega) _)
theorem rabandon_w (t r : Int) (q : Value) (w d : Int) (Q : List R5) (a h : Heap) (κ : Value → Heap → Prop) (hq : OwnR a h q Q) (hlen : Q.length ≤ 10000) (hlo : h.lo ≤ h.nx) (hp : Q.Pairwise Beside) {i : Nat} {p : R5} (hi : Q[i]? = some p) (hid : p.id = d)
    (hk7 : ¬ 0 < p.s → ∀ h', Le h h' → κ (.tuple ⟨[hdV 0 0 (.slice none 0 0) 0, .int .i64 7]⟩) h')
    (hk0 : 0 < p.s → p.m = 0 → ∀ q' h', QV h' q' (Q.filter fun r => !placeR d r) → Le h h' → κ (.tuple ⟨[hdV t r q' w, .int .i64 0]⟩) h')
    (hk1 : 0 < p.s → p.m ≠ 0 → ∀ q' h', QV h' q' (Q.set i (backR p)) → Le h h' → κ (.tuple ⟨[hdV t r q' w, .int .i64 0]⟩) h') :
    CallW Tryz.prog 77 [hdV t r q w, .int .i64 d] h κ := by
  obtain ⟨qx, qc, rfl, _⟩ := hq.sl
  have hil : i < Q.length := (List.getElem?_eq_some_iff.1 hi).1
  refine callW_of mixed ?_
  rw [rs_77]
  simp(disch:=first|omega|(simp only[Wx];done)|(simp only[Wy];done)|(simp only[Wv];omega)|with_unfolding_all rfl)only[Wz,ptrTo,sliceTo, hdV]
  obtain ⟨hA, e_hA⟩ : ∃ hA : Heap, hA = ⟨h.nx + 1 + 1, ((h.bl.upd (h.nx) (cellsO [.int .i64 t, .int .i64 r, .slice qx Q.length qc, .int .i64 w] 56 false)).upd (h.nx + 1) (cellsO [.int .i64 0, .int .i64 0, .slice none 0 0, .int .i64 0] 56 false)), h.lo⟩ := ⟨_, rfl⟩
  have le_hA : Le h hA := by subst e_hA; exact (((Le.refl h).new _).new _)
  have g1 : hA.bl.get (h.nx) = some (cellsO [.int .i64 t, .int .i64 r, .slice qx Q.length qc, .int .i64 w] 56 false) := by subst e_hA; exact (T.get_updne _ _ (by omega)).trans (T.get_upd_same _ _ _)
  have g3 : hA.bl.get (h.nx + 1) = some (cellsO [.int .i64 0, .int .i64 0, .slice none 0 0, .int .i64 0] 56 false) := by subst e_hA; exact T.get_upd_same _ _ _
  have n_hA : hA.nx = h.nx + 1 + 1 := by subst e_hA; rfl
  have l_hA : hA.lo = h.lo := by subst e_hA; rfl
  rw [← e_hA]
  clear e_hA
  have hqA := hq.le le_hA
  refine rat_w t r _ w d Q hA _ hqA.sl (by omega) (by omega) ?_
  intro h1 le1
  have n_le1 := le1.nx
  have l_le1 := le1.lo
  have g1 := (le1.get _ (by omega)).trans g1
  have g3 := (le1.get _ (by omega)).trans g3
  have efind : Q.findIdx? (placeR d) = some i := by
    refine find_first hi (show placeR d p = true from dec_t hid) fun j o hj ho => ?_
    exact dec_f fun e => by have := ids_at hp ho hi (e.trans hid.symm); omega
  rw [efind]
  obtain ⟨b, o', hb, hat, hld⟩ := ld5 (hqA.le le1).sl i hi
  simp(disch:=first|omega|(simp only[Wx];done)|(simp only[Wy];done)|(simp only[Wv];omega)|with_unfolding_all rfl)only[Wz,ptrTo,sliceTo, optI, lt_f (show (0 : Int) ≤ (i : Int) by omega), rs_77_2, g1, hat, hld]
  refine rwaits_w p ?_
  by_cases hs : 0 < p.s
  case neg =>
    simp(disch:=first|omega|(simp only[Wx];done)|(simp only[Wy];done)|(simp only[Wv];omega)|with_unfolding_all rfl)only[Wz,ptrTo,sliceTo, dec_f hs, g3]
    exact hk7 hs _ ((le_hA.trans le1).set (b := h.nx + 1) (by omega) _)
  simp(disch:=first|omega|(simp only[Wx];done)|(simp only[Wy];done)|(simp only[Wv];omega)|with_unfolding_all rfl)only[Wz,ptrTo,sliceTo, dec_t hs, rs_77_1, g1, hat, hld]
  refine rholds_w p ?_
  by_cases hm : p.m = 0
  · simp(disch:=first|omega|(simp only[Wx];done)|(simp only[Wy];done)|(simp only[Wv];omega)|with_unfolding_all rfl)only[Wz,ptrTo,sliceTo, dec_f (show ¬ p.m ≠ 0 by omega), g1]
    refine rwithout_w t r _ w i Q a h1 _ (hqA.le le1) hlen (by omega) hil ?_
    intro q2 h2 hq2 le2
    have n_le2 := le2.nx
    have l_le2 := le2.lo
    have g3 := (le2.get _ (by omega)).trans g3
    have hsl := hq2.1
    obtain ⟨qx2, qc2, rfl, _⟩ := hsl
    rw [← erase_id hp hi, hid] at hq2
    simp(disch:=first|omega|(simp only[Wx];done)|(simp only[Wy];done)|(simp only[Wv];omega)|with_unfolding_all rfl)only[Wz,ptrTo,sliceTo, hdV, g3]
    have el : (List.take i Q ++ List.drop (i + 1) Q).length = (Q.filter fun r => !placeR d r).length := by rw [← hid, erase_id hp hi]
    rw [el]
    exact hk0 hs hm _ _ (hq2.put (fun vs op => by rw [g3]; exact cells_ty (by decide)) _) (((le_hA.trans le1).trans le2).set (b := h.nx + 1) (by omega) _)
  simp(disch:=first|omega|(simp only[Wx];done)|(simp only[Wy];done)|(simp only[Wv];omega)|with_unfolding_all rfl)only[Wz,ptrTo,sliceTo, dec_t (show p.m ≠ 0 from hm), rs_77_0, g1]
  refine rcopied_w t r _ w Q h1 _ (hqA.le le1).sl (by omega) (by omega) ?_
  intro q2 h2 ho2 le2
  have n_le2 := le2.nx
  have l_le2 := le2.lo
  have g1 := (le2.get _ (by omega)).trans g1
  have g3 := (le2.get _ (by omega)).trans g3
  rcases ho2 with ⟨rfl, _⟩ | ⟨bo, rfl, k1, k2, k3, k4⟩
  · simp at hi
  have hfl := flat_length (enc := enc5) enc5_len Q
  have r2 : (Q.flatMap enc5)[i * 5 + 2]? = some (.int .i64 p.m) := flat_read (j := 2) enc5_len hi (by decide)
  have hov := over_field (p' := ⟨p.id, p.x, p.m, p.m, p.s⟩) (ws := [.int .i64 p.m]) (j := 3) enc5_len hi (by show 3 + 1 ≤ 5; omega) rfl
  have hp2 : (Q.set i ⟨p.id, p.x, p.m, p.m, p.s⟩)[i]? = some ⟨p.id, p.x, p.m, p.m, p.s⟩ := by rw [List.getElem?_set, if_pos rfl, if_pos hil]
  have hfl2 : ((Q.set i ⟨p.id, p.x, p.m, p.m, p.s⟩).flatMap enc5).length = Q.length * 5 := by rw [flat_length enc5_len, List.length_set]
  have hov2 := over_field (p' := backR p) (ws := [.int .i64 0]) (j := 4) enc5_len hp2 (by show 4 + 1 ≤ 5; omega) rfl
  rw [List.set_set] at hov2
  have hne2 : bo ≠ h.nx + 1 := by rintro rfl; rw [g3] at k4; exact cells_op k4
  simp(disch:=first|omega|(simp only[Wx];done)|(simp only[Wy];done)|(simp only[Wv];omega)|with_unfolding_all rfl)only[Wz,ptrTo,sliceTo, hdV, indexAddr_eq, k4, r2, hov, hov2, g3]
  refine hk1 hs hm _ _ (QV.blk (by show bo < h2.nx + 1; omega) ((T.get_updne _ _ (fun e => hne2 e.symm)).trans (T.get_upd_same _ _ _)) (by rw [List.length_set])) ?_
  exact ((((le_hA.trans le1).trans le2).new _).set (b := bo) (by omega) _).set (b := h.nx + 1) (by omega) _
end Go.Proofs
