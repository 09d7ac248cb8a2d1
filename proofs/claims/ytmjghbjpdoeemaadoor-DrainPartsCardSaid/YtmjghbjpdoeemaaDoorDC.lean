/-
  PROVED HERE: a part of the proof, by a calculus of weakest conditions over an abstract heap (DP4, DP5, DP6).
-/
import Derived.Test.YtmjghbjpdoeemaaDoorDB
import Derived.Test.YtmjghbjpdoeemaaDoorV4
set_option linter.unusedVariables false
set_option linter.unusedSimpArgs false
set_option maxRecDepth 100000
set_option maxHeartbeats 4000000
namespace Go.Proofs
open Go.Vai Go.Clashes
def poolF (P : List R5) : Int → Nat := fun x => P.countP fun p => decide (p.x = x)
theorem poolF_snoc (P : List R5) (p : R5) : ∀ k, incF (poolF P) p.x k = poolF (P ++ [p]) k := by
  intro k
  unfold incF poolF
  rw [List.countP_append, List.countP_cons, List.countP_nil]
  by_cases h : k = p.x
  · subst h; simp
  · have h' : ¬ p.x = k := fun e => h e.symm
    rw [if_neg h, dec_f h']; simp
theorem all_take {K : List HE} {i : Nat} {e : HE} (h : K[i]? = some e) : allD (K.take (i + 1)) = allD (K.take i) ++ e.Q := by
  unfold allD
  rw [List.take_add_one, h]; simp
theorem pools_fin {K : List HE} {c : Caps} {W : List IE} {clock : Nat} (o : CM W clock (poolF (allD K))) : (W = [] → ((allD K).all fun p => decide ((poolD K p.x : Int) ≤ c.P)) = true) ∧ ∀ g : Int, (g = 0 ∨ ∃ e ∈ W, g = e.2.1) → (∀ e ∈ W, e.2.1 ≤ g) → W ≠ [] → ((allD K).all fun p => decide ((poolD K p.x : Int) ≤ c.P)) = decide (g ≤ c.P) := by
  have key : ∀ e ∈ W, e.2.1 = (poolD K e.1 : Int) ∧ ∃ p ∈ allD K, p.x = e.1 := by
    intro e he
    obtain ⟨h1, h2⟩ := o.vl e he
    obtain ⟨p, hp, h3⟩ := List.countP_pos_iff.1 h2
    exact ⟨h1, p, hp, by simpa using h3⟩
  have key2 : ∀ p ∈ allD K, ∃ e ∈ W, e.2.1 = (poolD K p.x : Int) := by
    intro p hp
    have h0 : 0 < poolF (allD K) p.x := List.countP_pos_iff.2 ⟨p, hp, by simp⟩
    obtain ⟨e, he, h1⟩ := o.al p.x h0
    exact ⟨e, he, by rw [(key e he).1, h1]⟩
  constructor
  · intro hW
    rw [List.all_eq_true]
    intro p hp
    obtain ⟨e, he, _⟩ := key2 p hp
    rw [hW] at he; nomatch he
  · intro g h1 h2 hne
    have hg0 : g = 0 ∨ ∃ p ∈ allD K, g = (poolD K p.x : Int) := by
      rcases h1 with h | ⟨e, he, h⟩
      · exact .inl h
      · obtain ⟨h4, p, hp, h5⟩ := key e he
        exact .inr ⟨p, hp, by rw [h, h4, h5]⟩
    rw [pools_iff hg0 (fun p hp => by obtain ⟨e, he, h3⟩ := key2 p hp; have := h2 e he; omega)]
    have hn : ¬ allD K = [] := by
      intro h0
      cases W with
      | nil => exact hne rfl
      | cons e W =>
        obtain ⟨_, p, hp, _⟩ := key e (.head _)
        rw [h0] at hp; nomatch hp
    rw [dec_f hn, Bool.false_or]
theorem drained_w (c : Caps) (K : List HE) (v : Value) (h : Heap) (κ : Value → Heap → Prop) (hv : HeadsIs h v K) (hlo : h.lo ≤ h.nx) (hk : ∀ h', Le h h' → κ (.bool (drainedD K c)) h') :
    CallW Tryd.prog 8 [v, capsV c] h κ := by
  refine callW_of mixed ?_
  rw [rs_8]
  obtain ⟨vx, vc, ev, _⟩ := (show Sl encH h v K from hv.sl)
  have hlen : ∀ (β : Type) (fl : β) (h' : Heap) (κ : Value → Heap → β), lenSli fl v h' κ = κ (.int .i64 (K.length : Int)) h' := fun β fl h' κ => by rw [ev]; exact lenSli_eq _ _ _ _ _
  have hqs : ∀ k ∈ K, k.Q.length ≤ 13 := fun k hk => (hv.q k hk).2.2
  have hKl := hv.len
  have hal : ∀ i, (allD (K.take i)).length ≤ 260 := by
    intro i
    have h1 : (allD (K.take i)).length = reqsD (K.take i) := by unfold allD reqsD; rw [List.length_flatMap]
    have h2 := reqs_le (K := K.take i) fun k hk => hqs k (List.mem_of_mem_take hk)
    have htl : (K.take i).length ≤ K.length := by rw [List.length_take]; omega
    omega
  simp(disch:=first|omega|(simp only[Wx];done)|(simp only[Wy];done)|(simp only[Wv];omega)|with_unfolding_all rfl)only[Wz,ptrTo,sliceTo, capsV, hlen]
  obtain ⟨hA, e_hA⟩ : ∃ hA : Heap, hA = ⟨h.nx + 1 + 1, ((h.bl.upd (h.nx) (cellsO [.int .i64 c.S, .int .i64 c.H, .int .i64 c.R, .int .i64 c.P] 24 false)).upd (h.nx + 1) (.map [] 0)), h.lo⟩ := ⟨_, rfl⟩
  have le_hA : Le h hA := by subst e_hA; exact (((Le.refl h).new _).new _)
  have gc : hA.bl.get (h.nx) = some (cellsO [.int .i64 c.S, .int .i64 c.H, .int .i64 c.R, .int .i64 c.P] 24 false) := by subst e_hA; exact (T.get_updne _ _ (by omega)).trans (T.get_upd_same _ _ _)
  have gm : hA.bl.get (h.nx + 1) = some (.map [] 0) := by subst e_hA; exact T.get_upd_same _ _ _
  have n_hA : hA.nx = h.nx + 1 + 1 := by subst e_hA; rfl
  have l_hA : hA.lo = h.lo := by subst e_hA; rfl
  rw [← e_hA]
  clear e_hA
  refine ⟨fun n l h1 => ∃ (i : Nat) (W : List IE) (clock : Nat), slot l 36 = .int .i64 (i : Int) ∧ n = K.length - i ∧ i ≤ K.length ∧ ((K.take i).all fun e => e.Q.all fun p => !restD e.t e.r p) = true ∧ CM W clock (poolF (allD (K.take i))) ∧ h1.bl.get (h.nx + 1) = some (.map (W.map toI) clock) ∧ h1.bl.get h.nx = some (cellsO [.int .i64 c.S, .int .i64 c.H, .int .i64 c.R, .int .i64 c.P] 24 false) ∧ hA.nx ≤ h1.nx ∧ Le h h1,
    ⟨_, 0, [], 0, rfl, rfl, Nat.zero_le _, by simp, (CM.nil 0).congr (fun k => by simp [poolF, allD]), gm, gc, Nat.le_refl _, le_hA⟩, ?_⟩
  rintro n l h1 ⟨i, W, clock, s1, rfl, hi, hgood, o, gm1, gc1, hn1, le1⟩
  have l1 := le1.lo
  by_cases hlt : i < K.length
  · obtain ⟨e, he⟩ : ∃ e, K[i]? = some e := ⟨_, List.getElem?_eq_getElem hlt⟩
    have heK := List.mem_of_getElem? he
    obtain ⟨q1, q2, q3⟩ := hv.q e heK
    obtain ⟨b0, o0, hb0, hx0, hr0⟩ := ldHs hv.sl i he q1
    have R1 := hr0 h1 le1
    obtain ⟨qx, qc, eq, _⟩ := (show Sl enc5 h e.q e.Q from q2)
    rw [eq] at R1
    simp(disch:=first|omega|(simp only[Wx];done)|(simp only[Wy];done)|(simp only[Wv];omega)|with_unfolding_all rfl)only[Wz,ptrTo,sliceTo, s1, lt_t (show (i : Int) < (K.length : Int) by omega), rs_8_2, hx0, R1]
    obtain ⟨hB, e_hB⟩ : ∃ hB : Heap, hB = ⟨h1.nx + 1, (h1.bl.upd (h1.nx) (cellsO [.int .i64 e.t, .int .i64 e.r, .slice qx e.Q.length qc, .int .i64 e.w] 33 false)), h1.lo⟩ := ⟨_, rfl⟩
    have le_hB : Le h1 hB := by subst e_hB; exact ((Le.refl h1).new _)
    have gb : hB.bl.get (h1.nx) = some (cellsO [.int .i64 e.t, .int .i64 e.r, .slice qx e.Q.length qc, .int .i64 e.w] 33 false) := by subst e_hB; exact T.get_upd_same _ _ _
    have n_hB : hB.nx = h1.nx + 1 := by subst e_hB; rfl
    have l_hB : hB.lo = h1.lo := by subst e_hB; rfl
    rw [← e_hB]
    clear e_hB
    have gm1B := (le_hB.get _ (by omega)).trans gm1
    have gc1B := (le_hB.get _ (by omega)).trans gc1
    refine ⟨fun n l h3 => ∃ (j : Nat) (W : List IE) (clock : Nat), slot l 27 = .int .i64 (j : Int) ∧ n = e.Q.length - j ∧ j ≤ e.Q.length ∧ ((e.Q.take j).all fun p => !restD e.t e.r p) = true ∧ CM W clock (poolF (allD (K.take i) ++ e.Q.take j)) ∧ h3.bl.get (h.nx + 1) = some (.map (W.map toI) clock) ∧ h3.bl.get h.nx = some (cellsO [.int .i64 c.S, .int .i64 c.H, .int .i64 c.R, .int .i64 c.P] 24 false) ∧ hB.nx ≤ h3.nx ∧ h3.bl.get h1.nx = some (cellsO [.int .i64 e.t, .int .i64 e.r, .slice qx e.Q.length qc, .int .i64 e.w] 33 false) ∧ Le h h3,
      ⟨_, 0, W, clock, rfl, rfl, Nat.zero_le _, by simp, by rw [List.take_zero, List.append_nil]; exact o, gm1B, gc1B, Nat.le_refl _, gb, le1.trans le_hB⟩, ?_⟩
    rintro n l3 h3 ⟨j, W3, clock3, s3, rfl, hj, hg3, o3, gm3, gc3, hn3, gb3, le3⟩
    have l3' := le3.lo
    by_cases hjl : j < e.Q.length
    · obtain ⟨p, hp⟩ : ∃ p, e.Q[j]? = some p := ⟨_, List.getElem?_eq_getElem hjl⟩
      have q23 := q2.le le3
      obtain ⟨b4, o4, _, hx4, hp4, _⟩ := ld5 q23 j hp
      rw [eq] at hx4
      have htl : (e.Q.take j).length ≤ 13 := by rw [List.length_take]; omega
      have hcl : poolF (allD (K.take i) ++ e.Q.take j) p.x ≤ 1000 := by
        unfold poolF
        have := List.countP_le_length (p := fun q : R5 => decide (q.x = p.x)) (l := allD (K.take i) ++ e.Q.take j)
        rw [List.length_append] at this
        have := hal i
        omega
      have bad : restD e.t e.r p = true → drainedD K c = false := fun hr => drained_not heK (List.mem_of_getElem? hp) hr
      have good : restD e.t e.r p = false → ((e.Q.take (j + 1)).all fun p => !restD e.t e.r p) = true := by
        intro hr
        rw [List.take_add_one, hp, List.all_append, hg3, Bool.true_and]
        simp [hr]
      simp(disch:=first|omega|(simp only[Wx];done)|(simp only[Wy];done)|(simp only[Wv];omega)|with_unfolding_all rfl)only[Wz,ptrTo,sliceTo, s3, lt_t (show (j : Int) < (e.Q.length : Int) by omega), rs_8_1, hx4, hp4, enc5]
      obtain ⟨hC, e_hC⟩ : ∃ hC : Heap, hC = ⟨h3.nx + 1, (h3.bl.upd (h3.nx) (cellsO [.int .i64 p.id, .int .i64 p.x, .int .i64 p.m, .int .i64 p.w, .int .i64 p.s] 38 false)), h3.lo⟩ := ⟨_, rfl⟩
      have le_hC : Le h3 hC := by subst e_hC; exact ((Le.refl h3).new _)
      have gp : hC.bl.get (h3.nx) = some (cellsO [.int .i64 p.id, .int .i64 p.x, .int .i64 p.m, .int .i64 p.w, .int .i64 p.s] 38 false) := by subst e_hC; exact T.get_upd_same _ _ _
      have n_hC : hC.nx = h3.nx + 1 := by subst e_hC; rfl
      have l_hC : hC.lo = h3.lo := by subst e_hC; rfl
      rw [← e_hC]
      clear e_hC
      have gm3C := (le_hC.get _ (by omega)).trans gm3
      have gc3C := (le_hC.get _ (by omega)).trans gc3
      have gb3C := (le_hC.get _ (by omega)).trans gb3
      have hk := hk hC (le3.trans le_hC)
      unfold restD at bad good
      by_cases hs : 0 < p.s
      · rw [bad (by rw [dec_t hs]; rfl)] at hk
        simp(disch:=first|omega|(simp only[Wx];done)|(simp only[Wy];done)|(simp only[Wv];omega)|with_unfolding_all rfl)only[Wz,ptrTo,sliceTo, gp, dec_t hs]
        exact hk
      · by_cases hx : 0 ≤ p.x
        · rw [bad (by rw [dec_f hs, dec_t hx]; rfl)] at hk
          simp(disch:=first|omega|(simp only[Wx];done)|(simp only[Wy];done)|(simp only[Wv];omega)|with_unfolding_all rfl)only[Wz,ptrTo,sliceTo, gp, dec_f hs, dec_t hx]
          exact hk
        · simp(disch:=first|omega|(simp only[Wx];done)|(simp only[Wy];done)|(simp only[Wv];omega)|with_unfolding_all rfl)only[Wz,ptrTo,sliceTo, gp, gb3, gb3C, dec_f hs, dec_f hx]
          refine elig_w e.t e.r p.m hC _ (by omega) ?_
          intro h5 le5
          have gm5 := (le5.get _ (by omega)).trans gm3C
          have gc5 := (le5.get _ (by omega)).trans gc3C
          have gb5 := (le5.get _ (by omega)).trans gb3C
          have gp5 := (le5.get _ (by omega)).trans gp
          have n5 := le5.nx
          have l5 := le5.lo
          have lec := (le3.trans le_hC).trans le5
          cases hel : eligD e.t e.r p.m with
          | false =>
            have hk := ‹∀ h', Le h h' → κ (.bool (drainedD K c)) h'› h5 lec
            rw [bad (by rw [dec_f hs, dec_f hx, hel]; rfl)] at hk
            simp(disch:=first|omega|(simp only[Wx];done)|(simp only[Wy];done)|(simp only[Wv];omega)|with_unfolding_all rfl)only[Wz,ptrTo,sliceTo]
            exact hk
          | true =>
            simp(disch:=first|omega|(simp only[Wx];done)|(simp only[Wy];done)|(simp only[Wv];omega)|with_unfolding_all rfl)only[Wz,ptrTo,sliceTo, rs_8_0, gp5, mapTo, cm_look o3 gm5]
            refine cm_put o3 gm5 (by omega) _ _ ?_
            intro W' clock' o'
            simp(disch:=first|omega|(simp only[Wx];done)|(simp only[Wy];done)|(simp only[Wv];omega)|with_unfolding_all rfl)only[Wz,ptrTo,sliceTo, s3]
            refine ⟨_, by omega, j + 1, W', clock', rfl, rfl, by omega, good (by rw [dec_f hs, dec_f hx, hel]; rfl), ?_, rfl, gc5, by show hB.nx ≤ h5.nx; omega, gb5, lec.set (by omega) _⟩
            rw [List.take_add_one, hp, ← List.append_assoc]
            exact o'.congr (poolF_snoc _ p)
    · have hjQ : j = e.Q.length := by omega
      subst hjQ
      rw [List.take_length] at hg3 o3
      simp(disch:=first|omega|(simp only[Wx];done)|(simp only[Wy];done)|(simp only[Wv];omega)|with_unfolding_all rfl)only[Wz,ptrTo,sliceTo, s3, lt_f (show (e.Q.length : Int) ≤ (e.Q.length : Int) by omega), s1]
      refine ⟨_, by omega, i + 1, W3, clock3, rfl, rfl, by omega, ?_, by rw [all_take he]; exact o3, gm3, gc3, by omega, le3⟩
      rw [List.take_add_one, he, List.all_append, hgood, Bool.true_and]
      simp only [Option.toList_some, List.all_cons, List.all_nil, Bool.and_true]
      exact hg3
  · have hil : i = K.length := by omega
    subst hil
    rw [List.take_length] at o hgood
    obtain ⟨w1, w2⟩ := pools_fin (c := c) o
    simp(disch:=first|omega|(simp only[Wx];done)|(simp only[Wy];done)|(simp only[Wv];omega)|with_unfolding_all rfl)only[Wz,ptrTo,sliceTo, s1, lt_f (show (K.length : Int) ≤ (K.length : Int) by omega), rs_8_3, gc1]
    refine drWithin_w c K v h1 _ (hv.le le1) (by omega) ?_
    intro h2 le2
    have gc2 := (le2.get _ (by omega)).trans gc1
    have gm2 := (le2.get _ (by omega)).trans gm1
    have n2 := le2.nx
    have l2 := le2.lo
    have le02 := le1.trans le2
    have hD : drainedD K c = (withinD K c && (allD K).all fun p => decide ((poolD K p.x : Int) ≤ c.P)) := by
      unfold drainedD; rw [hgood, Bool.true_and]
    cases hw : withinD K c with
    | false =>
      have hk := hk h2 le02
      rw [hD, hw, Bool.false_and] at hk
      simp(disch:=first|omega|(simp only[Wx];done)|(simp only[Wy];done)|(simp only[Wv];omega)|with_unfolding_all rfl)only[Wz,ptrTo,sliceTo]
      exact hk
    | true =>
      rw [hw, Bool.true_and] at hD
      simp(disch:=first|omega|(simp only[Wx];done)|(simp only[Wy];done)|(simp only[Wv];omega)|with_unfolding_all rfl)only[Wz,ptrTo,sliceTo, mapTo, lenMap_w gm2]
      cases W with
      | nil =>
        have hk := hk h2 le02
        rw [hD, w1 rfl] at hk
        exact hk
      | cons e W =>
        simp(disch:=first|omega|(simp only[Wx];done)|(simp only[Wy];done)|(simp only[Wv];omega)|with_unfolding_all rfl)only[Wz,ptrTo,sliceTo, List.map_cons, List.length_cons, dec_f (show ¬ ((W.length + 1 : Nat) : Int) = 0 by omega), gc2]
        refine greatest_w o h2 gm2 (by omega) (by omega) _ ?_
        intro h3 g g1 g2 le3
        have gc3 := (le3.get _ (by omega)).trans gc2
        have hk := hk h3 (le02.trans le3)
        rw [hD, w2 g g1 g2 (by simp)] at hk
        simp(disch:=first|omega|(simp only[Wx];done)|(simp only[Wy];done)|(simp only[Wv];omega)|with_unfolding_all rfl)only[Wz,ptrTo,sliceTo, gc3, le_nlt]
        exact hk
end Go.Proofs

namespace Go.Proofs
open Go.Vai Go.Clashes
def pickM (n m : Int) : Int := if m < 1 then 0 else if Int.tmod n m < 0 then Int.tmod n m + m else Int.tmod n m
theorem pickM_range {n m : Int} (h : 0 < m) : 0 ≤ pickM n m ∧ pickM n m < m := by
  unfold pickM
  rw [if_neg (by omega)]
  have h2 := Int.tmod_lt_of_pos n h
  have h3 := Int.lt_tmod_of_pos n h
  split <;> omega
theorem pick_w (n m : Int) (hm : m ≤ 9223372036854775807) {h : Heap} {κ : Value → Heap → Prop} (hk : κ (.int .i64 (pickM n m)) h) : CallW Tryd.prog 6 [.int .i64 n, .int .i64 m] h κ := by
  refine pureW (v := .int .i64 (pickM n m)) rfl rfl (callW_of mixed ?_) hk
  rw [rs_6]
  by_cases h1 : m < 1
  · simp(disch:=first|omega|(simp only[Wx];done)|(simp only[Wy];done)|(simp only[Wv];omega)|with_unfolding_all rfl)only[Wz,ptrTo,sliceTo]; simp [pickM, h1]
  · have h2 := Int.tmod_lt_of_pos n (show 0 < m by omega)
    have h3 := Int.lt_tmod_of_pos n (show 0 < m by omega)
    simp(disch:=first|omega|(simp only[Wx];done)|(simp only[Wy];done)|(simp only[Wv];omega)|with_unfolding_all rfl)only[Wz,ptrTo,sliceTo, rs_6_0, bin_rem _ _ _ _ _ m _ _ (by omega)]
    refine ⟨fun l h' => slot l 5 = .int .i64 (pickM n m), ?_, fun l h' hs => hs⟩
    by_cases h4 : Int.tmod n m < 0
    · simp(disch:=first|omega|(simp only[Wx];done)|(simp only[Wy];done)|(simp only[Wv];omega)|with_unfolding_all rfl)only[Wz,ptrTo,sliceTo]; simp [pickM, h1, h4]
    · simp(disch:=first|omega|(simp only[Wx];done)|(simp only[Wy];done)|(simp only[Wv];omega)|with_unfolding_all rfl)only[Wz,ptrTo,sliceTo]; simp [pickM, h1, h4]
theorem poolC_w (p q : L4) (h : Heap) (κ : Value → Heap → Prop) (hk : ∀ r, κ (.int .i64 r) h) : CallW Tryd.prog 19 [.agg ⟨encL p⟩, .agg ⟨encL q⟩] h κ := by
  refine pureW (v := .int .i64 (if cmpI p.x q.x = 0 then nmCmp p.t p.r q.t q.r else cmpI p.x q.x)) rfl rfl (callW_of mixed ?_) (hk _)
  rw [rs_19]
  simp(disch:=first|omega|(simp only[Wx];done)|(simp only[Wy];done)|(simp only[Wv];omega)|with_unfolding_all rfl)only[Wz,ptrTo,sliceTo, encL]
  refine compareI_w _ _ ?_
  simp(disch:=first|omega|(simp only[Wx];done)|(simp only[Wy];done)|(simp only[Wv];omega)|with_unfolding_all rfl)only[Wz,ptrTo,sliceTo]
  refine nmCompare_w _ _ _ _ ?_
  simp(disch:=first|omega|(simp only[Wx];done)|(simp only[Wy];done)|(simp only[Wv];omega)|with_unfolding_all rfl)only[Wz,ptrTo,sliceTo]
  refine or_w _ _ _ _ (Sl.new (L := [cmpI p.x q.x, nmCmp p.t p.r q.t q.r]) (e := 3) (op := false) (Nat.lt_succ_self _) (T.get_upd_same _ _ _) _) _ ?_
  rfl
theorem poolC_ok : CmpOk (.func (.func 19) #[] #[]) := by
  intro p q h κ hk
  rw [callV_eq]
  exact poolC_w p q h κ hk
theorem sortStable0_w (v : Value) (hv : ∀ (β : Type) (fl : β) (h' : Heap) (κ : Value → Heap → β), lenSli fl v h' κ = κ (.int .i64 0) h') (fv : Value) (h : Heap) (κ : Value → Heap → Prop) (hk : κ (.tuple ⟨[]⟩) h) :
    CallW Tryd.prog 18 [v, fv] h κ := by
  refine callW_of mixed ?_
  rw [rs_18]
  simp(disch:=first|omega|(simp only[Wx];done)|(simp only[Wy];done)|(simp only[Wv];omega)|with_unfolding_all rfl)only[Wz,ptrTo,sliceTo, hv]
  refine callW_of mixed ?_
  rw [rs_28]
  refine ⟨fun k l h1 => slot l 9 = .int .i64 0 ∧ slot l 13 = .int .i64 20 ∧ HQ h h1, ⟨0, rfl, rfl, rfl⟩, ?_⟩
  rintro k l h1 ⟨s1, s2, hq⟩
  cases (show h = h1 from hq)
  simp(disch:=first|omega|(simp only[Wx];done)|(simp only[Wy];done)|(simp only[Wv];omega)|with_unfolding_all rfl)only[Wz,ptrTo,sliceTo, s1, s2, rs_28_2]
  refine callW_of mixed ?_
  rw [rs_34]
  simp(disch:=first|omega|(simp only[Wx];done)|(simp only[Wy];done)|(simp only[Wv];omega)|with_unfolding_all rfl)only[Wz,ptrTo,sliceTo]
  refine ⟨fun k l h1 => slot l 42 = .int .i64 1 ∧ HQ h h1, ⟨0, rfl, rfl⟩, ?_⟩
  rintro k l2 h1 ⟨s3, hq⟩
  cases (show h = h1 from hq)
  simp(disch:=first|omega|(simp only[Wx];done)|(simp only[Wy];done)|(simp only[Wv];omega)|with_unfolding_all rfl)only[Wz,ptrTo,sliceTo, s3]
  refine ⟨fun k l h1 => slot l 38 = .int .i64 20 ∧ HQ h h1, ⟨0, rfl, rfl⟩, ?_⟩
  rintro k l3 h1 ⟨s4, hq⟩
  cases (show h = h1 from hq)
  simp(disch:=first|omega|(simp only[Wx];done)|(simp only[Wy];done)|(simp only[Wv];omega)|with_unfolding_all rfl)only[Wz,ptrTo,sliceTo, s4]
  exact hk
def heldQD (t r : Int) (Q : List R5) : List L4 := (Q.filter fun p => decide (p.x < 0) && decide (p.m ≠ 0)).map fun p => ⟨p.x, t, r, p.m⟩
theorem heldQD_take {t r : Int} {Q : List R5} {j : Nat} {p : R5} (h : Q[j]? = some p) : heldQD t r (Q.take (j + 1)) = heldQD t r (Q.take j) ++ (if p.x < 0 ∧ p.m ≠ 0 then [⟨p.x, t, r, p.m⟩] else []) := by
  unfold heldQD
  rw [List.take_add_one, h, List.filter_append, List.map_append]
  congr 1
  simp only [Option.toList_some, List.filter_cons, List.filter_nil]
  by_cases h1 : p.x < 0
  · by_cases h2 : p.m = 0
    · simp [h1, h2]
    · simp [h1, h2]
  · simp [h1]
theorem heldD_take {K : List HE} {i : Nat} {e : HE} (h : K[i]? = some e) : heldD (K.take (i + 1)) = heldD (K.take i) ++ heldQD e.t e.r e.Q := by
  unfold heldD
  rw [List.take_add_one, h]; simp [heldQD]
theorem heldD_len {K : List HE} (hq : ∀ k ∈ K, k.Q.length ≤ 13) : (heldD K).length ≤ 13 * K.length := by
  unfold heldD
  induction K with
  | nil => simp
  | cons k K ih =>
    have h1 := ih fun x hx => hq x (.tail _ hx)
    have h2 := hq k (.head _)
    have h3 := List.length_filter_le (fun p : R5 => decide (p.x < 0) && decide (p.m ≠ 0)) k.Q
    simp only [List.flatMap_cons, List.length_append, List.length_map, List.length_cons]
    omega
theorem heldQD_len (t r : Int) (Q : List R5) : (heldQD t r Q).length ≤ Q.length := by
  unfold heldQD
  rw [List.length_map]
  exact List.length_filter_le _ _
theorem pooled_w (K : List HE) (v : Value) (h : Heap) (κ : Value → Heap → Prop) (hv : HeadsIs h v K) (hlo : h.lo ≤ h.nx) (hk : ∀ x c h', Le h h' → κ (.slice x (heldD K).length c) h') :
    CallW Tryd.prog 11 [v] h κ := by
  refine callW_of mixed ?_
  rw [rs_11]
  obtain ⟨vx, vc, ev, _⟩ := (show Sl encH h v K from hv.sl)
  have hlen : ∀ (β : Type) (fl : β) (h' : Heap) (κ : Value → Heap → β), lenSli fl v h' κ = κ (.int .i64 (K.length : Int)) h' := fun β fl h' κ => by rw [ev]; exact lenSli_eq _ _ _ _ _
  have hqs : ∀ k ∈ K, k.Q.length ≤ 13 := fun k hk => (hv.q k hk).2.2
  have hKl := hv.len
  have hal : ∀ i, (heldD (K.take i)).length ≤ 260 := by
    intro i
    have h2 := heldD_len (K := K.take i) fun k hk => hqs k (List.mem_of_mem_take hk)
    have htl : (K.take i).length ≤ K.length := by rw [List.length_take]; omega
    omega
  simp(disch:=first|omega|(simp only[Wx];done)|(simp only[Wy];done)|(simp only[Wv];omega)|with_unfolding_all rfl)only[Wz,ptrTo,sliceTo, hlen]
  refine ⟨fun n l h1 => ∃ i : Nat, slot l 33 = .int .i64 (i : Int) ∧ n = K.length - i ∧ i ≤ K.length ∧ Own encL h 50 h1 (slot l 29) (heldD (K.take i)) ∧ Le h h1,
    ⟨_, 0, rfl, rfl, Nat.zero_le _, .inl ⟨by simp [heldD], .inl rfl⟩, Le.refl _⟩, ?_⟩
  rintro n l h1 ⟨i, s1, rfl, hi, ho, le1⟩
  have n1 := le1.nx
  have l1 := le1.lo
  have hali := hal i
  by_cases hlt : i < K.length
  · obtain ⟨e, he⟩ : ∃ e, K[i]? = some e := ⟨_, List.getElem?_eq_getElem hlt⟩
    have heK := List.mem_of_getElem? he
    obtain ⟨q1, q2, q3⟩ := hv.q e heK
    obtain ⟨b0, o0, hb0, hx0, hr0⟩ := ldHs hv.sl i he q1
    have R1 := hr0 h1 le1
    obtain ⟨qx, qc, eq, _⟩ := (show Sl enc5 h e.q e.Q from q2)
    rw [eq] at R1
    simp(disch:=first|omega|(simp only[Wx];done)|(simp only[Wy];done)|(simp only[Wv];omega)|with_unfolding_all rfl)only[Wz,ptrTo,sliceTo, s1, lt_t (show (i : Int) < (K.length : Int) by omega), rs_11_3, hx0, R1]
    obtain ⟨hB, e_hB⟩ : ∃ hB : Heap, hB = ⟨h1.nx + 1, (h1.bl.upd (h1.nx) (cellsO [.int .i64 e.t, .int .i64 e.r, .slice qx e.Q.length qc, .int .i64 e.w] 33 false)), h1.lo⟩ := ⟨_, rfl⟩
    have le_hB : Le h1 hB := by subst e_hB; exact ((Le.refl h1).new _)
    have gb : hB.bl.get (h1.nx) = some (cellsO [.int .i64 e.t, .int .i64 e.r, .slice qx e.Q.length qc, .int .i64 e.w] 33 false) := by subst e_hB; exact T.get_upd_same _ _ _
    have n_hB : hB.nx = h1.nx + 1 := by subst e_hB; rfl
    have l_hB : hB.lo = h1.lo := by subst e_hB; rfl
    rw [← e_hB]
    clear e_hB
    refine ⟨fun n l h3 => ∃ j : Nat, slot l 24 = .int .i64 (j : Int) ∧ n = e.Q.length - j ∧ j ≤ e.Q.length ∧ Own encL h 50 h3 (slot l 22) (heldD (K.take i) ++ heldQD e.t e.r (e.Q.take j)) ∧ hB.nx ≤ h3.nx ∧ h3.bl.get h1.nx = some (cellsO [.int .i64 e.t, .int .i64 e.r, .slice qx e.Q.length qc, .int .i64 e.w] 33 false) ∧ Le h h3,
      ⟨_, 0, rfl, rfl, Nat.zero_le _, ?_, Nat.le_refl _, gb, le1.trans le_hB⟩, ?_⟩
    · rw [List.take_zero, show heldQD e.t e.r [] = [] from rfl, List.append_nil]
      exact ho.le le_hB
    rintro n l3 h3 ⟨j, s3, rfl, hj, ho3, hn3, gb3, le3⟩
    have l3' := le3.lo
    have n3' := le3.nx
    by_cases hjl : j < e.Q.length
    · obtain ⟨p, hp⟩ : ∃ p, e.Q[j]? = some p := ⟨_, List.getElem?_eq_getElem hjl⟩
      have q23 := q2.le le3
      obtain ⟨b4, o4, _, hx4, hp4, _⟩ := ld5 q23 j hp
      rw [eq] at hx4
      have htl : (e.Q.take j).length ≤ 13 := by rw [List.length_take]; omega
      have hql := heldQD_len e.t e.r (e.Q.take j)
      have hstep := heldQD_take (t := e.t) (r := e.r) hp
      simp(disch:=first|omega|(simp only[Wx];done)|(simp only[Wy];done)|(simp only[Wv];omega)|with_unfolding_all rfl)only[Wz,ptrTo,sliceTo, s3, lt_t (show (j : Int) < (e.Q.length : Int) by omega), rs_11_2]
      refine ⟨fun l' h' => Own encL h 50 h' (slot l' 21) (heldD (K.take i) ++ heldQD e.t e.r (e.Q.take (j + 1))) ∧ hB.nx ≤ h'.nx ∧ h'.bl.get h1.nx = some (cellsO [.int .i64 e.t, .int .i64 e.r, .slice qx e.Q.length qc, .int .i64 e.w] 33 false) ∧ Le h h', ?_, ?_⟩
      rotate_left
      · rintro l' h' ⟨t1, t2, t3, t4⟩
        exact ⟨_, by omega, j + 1, rfl, rfl, by omega, t1, t2, t3, t4⟩
      simp(disch:=first|omega|(simp only[Wx];done)|(simp only[Wy];done)|(simp only[Wv];omega)|with_unfolding_all rfl)only[Wz,ptrTo,sliceTo, rs_11_1, s3, hx4, hp4, enc5]
      obtain ⟨hC, e_hC⟩ : ∃ hC : Heap, hC = ⟨h3.nx + 1, (h3.bl.upd (h3.nx) (cellsO [.int .i64 p.id, .int .i64 p.x, .int .i64 p.m, .int .i64 p.w, .int .i64 p.s] 38 false)), h3.lo⟩ := ⟨_, rfl⟩
      have le_hC : Le h3 hC := by subst e_hC; exact ((Le.refl h3).new _)
      have gp : hC.bl.get (h3.nx) = some (cellsO [.int .i64 p.id, .int .i64 p.x, .int .i64 p.m, .int .i64 p.w, .int .i64 p.s] 38 false) := by subst e_hC; exact T.get_upd_same _ _ _
      have n_hC : hC.nx = h3.nx + 1 := by subst e_hC; rfl
      have l_hC : hC.lo = h3.lo := by subst e_hC; rfl
      rw [← e_hC]
      clear e_hC
      have gb3C := (le_hC.get _ (by omega)).trans gb3
      have no : (¬ (p.x < 0 ∧ p.m ≠ 0)) → Own encL h 50 hC (slot l3 22) (heldD (K.take i) ++ heldQD e.t e.r (e.Q.take (j + 1))) := by
        intro hn
        rw [hstep, if_neg hn, List.append_nil]
        exact ho3.le le_hC
      by_cases hx : p.x < 0
      · by_cases hm : p.m = 0
        · simp(disch:=first|omega|(simp only[Wx];done)|(simp only[Wy];done)|(simp only[Wv];omega)|with_unfolding_all rfl)only[Wz,ptrTo,sliceTo, gp, dec_t hx, dec_t hm]
          exact ⟨no (fun h => h.2 hm), by omega, gb3C, le3.trans le_hC⟩
        · simp(disch:=first|omega|(simp only[Wx];done)|(simp only[Wy];done)|(simp only[Wv];omega)|with_unfolding_all rfl)only[Wz,ptrTo,sliceTo, gp, gb3C, dec_t hx, dec_f hm, rs_11_0]
          obtain ⟨hD, e_hD⟩ : ∃ hD : Heap, hD = ⟨hC.nx + 1, (hC.bl.upd (hC.nx) (cellsO [.int .i64 p.x, .int .i64 e.t, .int .i64 e.r, .int .i64 p.m] 50 false)), hC.lo⟩ := ⟨_, rfl⟩
          have le_hD : Le hC hD := by subst e_hD; exact ((Le.refl hC).new _)
          have gd : hD.bl.get (hC.nx) = some (cellsO [.int .i64 p.x, .int .i64 e.t, .int .i64 e.r, .int .i64 p.m] 50 false) := by subst e_hD; exact T.get_upd_same _ _ _
          have n_hD : hD.nx = hC.nx + 1 := by subst e_hD; rfl
          have l_hD : hD.lo = hC.lo := by subst e_hD; rfl
          rw [← e_hD]
          clear e_hD
          have le3D := (le3.trans le_hC).trans le_hD
          have gb3D := (le_hD.get _ (by omega)).trans gb3C
          refine append_in (enc := encL) (a := h) (L := heldD (K.take i) ++ heldQD e.t e.r (e.Q.take j)) (M := [(⟨p.x, e.t, e.r, p.m⟩ : L4)]) encL_len encL_one (by decide) (by decide) ((ho3.le le_hC).le le_hD) (Sl.new (by omega) gd _) le3D (by rw [List.length_append]; simp only [List.length_cons, List.length_nil]; omega) (by omega) _ ?_
          intro v7 h7 ho7 le7 _ n7 l7 same7
          refine ⟨?_, by omega, (same7 _ (by omega) (by rw [gb3D]; exact cells_op)).trans gb3D, le7⟩
          rw [hstep, if_pos ⟨hx, hm⟩, ← List.append_assoc]
          exact ho7
      · simp(disch:=first|omega|(simp only[Wx];done)|(simp only[Wy];done)|(simp only[Wv];omega)|with_unfolding_all rfl)only[Wz,ptrTo,sliceTo, gp, dec_f hx]
        exact ⟨no (fun h => hx h.1), by omega, gb3C, le3.trans le_hC⟩
    · have hjQ : j = e.Q.length := by omega
      subst hjQ
      rw [List.take_length] at ho3
      simp(disch:=first|omega|(simp only[Wx];done)|(simp only[Wy];done)|(simp only[Wv];omega)|with_unfolding_all rfl)only[Wz,ptrTo,sliceTo, s3, lt_f (show (e.Q.length : Int) ≤ (e.Q.length : Int) by omega), rs_11_2, s1]
      exact ⟨_, by omega, i + 1, rfl, rfl, by omega, by rw [heldD_take he]; exact ho3, le3⟩
  · have hil : i = K.length := by omega
    subst hil
    rw [List.take_length] at ho hali
    simp(disch:=first|omega|(simp only[Wx];done)|(simp only[Wy];done)|(simp only[Wv];omega)|with_unfolding_all rfl)only[Wz,ptrTo,sliceTo, s1, lt_f (show (K.length : Int) ≤ (K.length : Int) by omega)]
    rcases ho with ⟨h0, h2⟩ | ⟨b, h2, h3, h4, h5, h6⟩
    · rw [h0] at hk
      rcases h2 with h2 | ⟨b, o, h2⟩
      · rw [h2]
        refine sortStable0_w _ (fun β fl h' κ => lenSli_eq _ _ _ _ _) _ h1 _ ?_
        exact hk _ _ h1 le1
      · rw [h2]
        refine sortStable0_w _ (fun β fl h' κ => lenSli_eq _ _ _ _ _) _ h1 _ ?_
        exact hk _ _ h1 le1
    · rw [h2]
      refine sortStable_w (h0 := h1) (b := b) (n := (heldD K).length) h4 h5 (by omega) poolC_ok ⟨LeS.of_le (Le.refl _), heldD K, rfl, h6⟩ _ ?_
      intro h7 s7
      refine hk _ _ h7 ⟨by have := s7.le.nx; omega, by rw [s7.le.lo]; exact l1, fun c hc => (s7.le.get c (by omega) (by omega)).trans (le1.get c hc)⟩
end Go.Proofs

namespace Go.Proofs
open Go.Vai Go.Clashes
theorem Own.base {α : Type} {enc : α → List Value} {a a' h : Heap} {e : TypeId} {v : Value} {L : List α} (ho : Own enc a e h v L) (hn : a'.nx ≤ a.nx) : Own enc a' e h v L := by
  rcases ho with ho | ⟨b, h0, h1, h2⟩
  · exact .inl ho
  · exact .inr ⟨b, h0, Nat.le_trans hn h1, h2⟩
theorem Own.put {α : Type} {enc : α → List Value} {a h : Heap} {e : TypeId} {v : Value} {L : List α} (ho : Own enc a e h v L) {c : Nat} (hc : h.bl.get c ≠ some (cellsO (L.flatMap enc) e true)) (o : AObj) : Own enc a e ⟨h.nx, h.bl.upd c o, h.lo⟩ v L := by
  rcases ho with ho | ⟨b, h0, h1, h2, h3, h4⟩
  · exact .inl ho
  · refine .inr ⟨b, h0, h1, h2, h3, (T.get_updne _ _ ?_).trans h4⟩
    rintro rfl
    exact hc h4
theorem light_w (K : List HE) (v : Value) (h : Heap) (κ : Value → Heap → Prop) (sl : Sl encH h v K) (hq : ∀ k ∈ K, slV k.q = k.q ∧ Sl enc5 h k.q k.Q)
    (hk0 : κ (.bool false) h) (hk1 : K.length ≤ 20 → (∀ k ∈ K, k.Q.length ≤ 12) → κ (.bool true) h) : CallW Tryd.prog 5 [v, .int .i64 20] h κ := by
  refine callW_of mixed ?_
  rw [rs_5]
  obtain ⟨vx, vc, ev, _⟩ := (show Sl encH h v K from sl)
  have hlen : ∀ (β : Type) (fl : β) (h' : Heap) (κ : Value → Heap → β), lenSli fl v h' κ = κ (.int .i64 (K.length : Int)) h' := fun β fl h' κ => by rw [ev]; exact lenSli_eq _ _ _ _ _
  by_cases hl : 20 < K.length
  · simp(disch:=first|omega|(simp only[Wx];done)|(simp only[Wy];done)|(simp only[Wv];omega)|with_unfolding_all rfl)only[Wz,ptrTo,sliceTo, hlen, lt_t (show (20 : Int) < (K.length : Int) by omega)]
    exact hk0
  simp(disch:=first|omega|(simp only[Wx];done)|(simp only[Wy];done)|(simp only[Wv];omega)|with_unfolding_all rfl)only[Wz,ptrTo,sliceTo, hlen, lt_f (show (K.length : Int) ≤ 20 by omega)]
  refine ⟨fun n l h1 => ∃ i : Nat, slot l 14 = .int .i64 (i : Int) ∧ n = K.length - i ∧ i ≤ K.length ∧ (∀ k ∈ K.take i, k.Q.length ≤ 12) ∧ HQ h h1, ⟨_, 0, rfl, rfl, Nat.zero_le _, by simp, rfl⟩, ?_⟩
  rintro n l h1 ⟨i, s1, rfl, hi, hall, hqq⟩
  cases (show h = h1 from hqq)
  by_cases hlt : i < K.length
  · obtain ⟨e, he⟩ : ∃ e, K[i]? = some e := ⟨_, List.getElem?_eq_getElem hlt⟩
    obtain ⟨q1, q2⟩ := hq e (List.mem_of_getElem? he)
    obtain ⟨b0, o0, hb0, hx0, hr0⟩ := ldHs sl i he q1
    have R1 := hr0 h (Le.refl h)
    obtain ⟨qx, qc, eq, _⟩ := (show Sl enc5 h e.q e.Q from q2)
    rw [eq] at R1
    by_cases h12 : 12 < e.Q.length
    · simp(disch:=first|omega|(simp only[Wx];done)|(simp only[Wy];done)|(simp only[Wv];omega)|with_unfolding_all rfl)only[Wz,ptrTo,sliceTo, s1, lt_t (show (i : Int) < (K.length : Int) by omega), rs_5_0, hx0, R1, lt_t (show (12 : Int) < (e.Q.length : Int) by omega)]
      exact hk0
    · simp(disch:=first|omega|(simp only[Wx];done)|(simp only[Wy];done)|(simp only[Wv];omega)|with_unfolding_all rfl)only[Wz,ptrTo,sliceTo, s1, lt_t (show (i : Int) < (K.length : Int) by omega), rs_5_0, hx0, R1, lt_f (show (e.Q.length : Int) ≤ 12 by omega)]
      refine ⟨_, by omega, i + 1, rfl, rfl, by omega, ?_, rfl⟩
      intro k hk
      rw [List.take_add_one, he] at hk
      rcases List.mem_append.1 hk with hk | hk
      · exact hall k hk
      · simp at hk; subst hk; omega
  · have hil : i = K.length := by omega
    subst hil
    rw [List.take_length] at hall
    simp(disch:=first|omega|(simp only[Wx];done)|(simp only[Wy];done)|(simp only[Wv];omega)|with_unfolding_all rfl)only[Wz,ptrTo,sliceTo, s1, lt_f (show (K.length : Int) ≤ (K.length : Int) by omega)]
    exact hk1 (by omega) hall
theorem ownH_w (K : List HE) (v : Value) (h : Heap) (κ : Value → Heap → Prop) (sl : Sl encH h v K) (hl : K.length ≤ 1000) (hlo : h.lo ≤ h.nx) (hk : ∀ v' h', OwnH h h' v' K → Le h h' → κ v' h') : CallW Tryd.prog 7 [v] h κ := by
  refine callW_of mixed ?_
  rw [rs_7]
  simp(disch:=first|omega|(simp only[Wx];done)|(simp only[Wy];done)|(simp only[Wv];omega)|with_unfolding_all rfl)only[Wz,ptrTo,sliceTo]
  obtain ⟨h1, e1⟩ : ∃ h1 : Heap, h1 = ⟨h.nx + 1, h.bl.upd h.nx (cellsO [] 33 false), h.lo⟩ := ⟨_, rfl⟩
  have le1 : Le h h1 := by rw [e1]; exact (Le.refl h).new _
  have n1 : h1.nx = h.nx + 1 := by rw [e1]
  have l1 := le1.lo
  try rw [← e1]
  clear e1
  refine append_in (enc := encH) (a := h) (L := []) (M := K) encH_len encH_one (by decide) (by decide) (.inl ⟨rfl, .inr ⟨h.nx, 0, rfl⟩⟩) (sl.le le1) le1 (by simp; omega) (by omega) _ ?_
  intro v' h' ho le' _ _ _ _
  rw [List.nil_append] at ho
  exact hk v' h' ho le'
theorem ownR_w (Q : List R5) (v : Value) (h : Heap) (κ : Value → Heap → Prop) (sl : Sl enc5 h v Q) (hl : Q.length ≤ 1000) (hlo : h.lo ≤ h.nx) (hk : ∀ v' h', OwnR h h' v' Q → Le h h' → κ v' h') : CallW Tryd.prog 17 [v] h κ := by
  refine callW_of mixed ?_
  rw [rs_17]
  simp(disch:=first|omega|(simp only[Wx];done)|(simp only[Wy];done)|(simp only[Wv];omega)|with_unfolding_all rfl)only[Wz,ptrTo,sliceTo]
  obtain ⟨h1, e1⟩ : ∃ h1 : Heap, h1 = ⟨h.nx + 1, h.bl.upd h.nx (cellsO [] 38 false), h.lo⟩ := ⟨_, rfl⟩
  have le1 : Le h h1 := by rw [e1]; exact (Le.refl h).new _
  have n1 : h1.nx = h.nx + 1 := by rw [e1]
  have l1 := le1.lo
  try rw [← e1]
  clear e1
  refine append_in (enc := enc5) (a := h) (L := []) (M := Q) enc5_len enc5_one (by decide) (by decide) (.inl ⟨rfl, .inr ⟨h.nx, 0, rfl⟩⟩) (sl.le le1) le1 (by simp; omega) (by omega) _ ?_
  intro v' h' ho le' _ _ _ _
  rw [List.nil_append] at ho
  exact hk v' h' ho le'
theorem ownHead_w (t r w : Int) (q : Value) (Q : List R5) (h : Heap) (κ : Value → Heap → Prop) (sl : Sl enc5 h q Q) (hl : Q.length ≤ 1000) (hlo : h.lo ≤ h.nx) (hk : ∀ q' h', OwnR h h' q' Q → Le h h' → κ (hdV t r q' w) h') : CallW Tryd.prog 10 [hdV t r q w] h κ := by
  obtain ⟨qx, qc, rfl, _⟩ := id sl
  refine callW_of mixed ?_
  rw [rs_10]
  simp(disch:=first|omega|(simp only[Wx];done)|(simp only[Wy];done)|(simp only[Wv];omega)|with_unfolding_all rfl)only[Wz,ptrTo,sliceTo, hdV]
  obtain ⟨hA, e_hA⟩ : ∃ hA : Heap, hA = ⟨h.nx + 1 + 1, ((h.bl.upd (h.nx) (cellsO [.int .i64 t, .int .i64 r, .slice qx Q.length qc, .int .i64 w] 33 false)).upd (h.nx + 1) (cellsO [.int .i64 0, .int .i64 0, .slice none 0 0, .int .i64 0] 33 false)), h.lo⟩ := ⟨_, rfl⟩
  have le_hA : Le h hA := by subst e_hA; exact (((Le.refl h).new _).new _)
  have g1 : hA.bl.get (h.nx) = some (cellsO [.int .i64 t, .int .i64 r, .slice qx Q.length qc, .int .i64 w] 33 false) := by subst e_hA; exact (T.get_updne _ _ (by omega)).trans (T.get_upd_same _ _ _)
  have g3 : hA.bl.get (h.nx + 1) = some (cellsO [.int .i64 0, .int .i64 0, .slice none 0 0, .int .i64 0] 33 false) := by subst e_hA; exact T.get_upd_same _ _ _
  have n_hA : hA.nx = h.nx + 1 + 1 := by subst e_hA; rfl
  have l_hA : hA.lo = h.lo := by subst e_hA; rfl
  rw [← e_hA]
  clear e_hA
  refine ownR_w Q _ hA _ (sl.le le_hA) hl (by omega) ?_
  intro q' h2 ho le2
  have g12 := (le2.get _ (by omega)).trans g1
  have g32 := (le2.get _ (by omega)).trans g3
  have n2 := le2.nx
  have l2 := le2.lo
  obtain ⟨qx', qc', eq', _⟩ := (show Sl enc5 h2 q' Q from ho.sl)
  subst eq'
  simp(disch:=first|omega|(simp only[Wx];done)|(simp only[Wy];done)|(simp only[Wv];omega)|with_unfolding_all rfl)only[Wz,ptrTo,sliceTo, g12, g32]
  refine hk _ _ ?_ (((le_hA.trans le2).set (by omega) _).set (by omega) _)
  exact Own.base (Own.put (Own.put ho (by rw [g12]; exact cells_op) _) (by
    intro hc
    have := (T.get_updne (n := h.nx) (m := h.nx + 1) h2.bl (cellsO [.int .i64 t, .int .i64 r, .slice qx' Q.length qc', .int .i64 w] 33 false) (by omega)).trans g32
    rw [this] at hc; exact cells_op hc) _) (by omega)
theorem lives_a : answersS Tryd.prog 400 4 [] (.bool true) = true := by kernel_rfl
theorem lives_w {h : Heap} {κ : Value → Heap → Prop} (hk : κ (.bool true) h) : CallW Tryd.prog 4 [] h κ := closedW mixed lives_a hk
end Go.Proofs
