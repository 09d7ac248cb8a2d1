/-
  PROVED HERE: a part of the proof, by a calculus of weakest conditions over an abstract heap (DP7, A17).
-/
import Derived.Test.YtmjghbjpdoeemaaDoorDC
import Derived.Test.YtmjghbjpdoeemaaDoorV3
import Derived.Test.YtmjghbjpdoeemaaDoorRows
set_option linter.unusedVariables false
set_option linter.unusedSimpArgs false
set_option maxRecDepth 100000
set_option maxHeartbeats 8000000
namespace Go.Proofs
open Go Go.Vai Go.Clashes
theorem held_set {K : List HE} {i : Nat} {e e' : HE} (hi : K[i]? = some e) (h : heldQD e'.t e'.r e'.Q = heldQD e.t e.r e.Q) : (heldD (K.set i e')).length = (heldD K).length := by
  have key : ∀ (L : List HE) (i : Nat), L[i]? = some e → heldD (L.set i e') = heldD L := by
    intro L
    induction L with
    | nil => intro i h; simp at h
    | cons a L ih =>
      intro i hi
      cases i with
      | zero =>
        simp at hi; subst hi
        simp only [List.set_cons_zero, heldD, List.flatMap_cons]
        congr 1
      | succ i =>
        simp only [List.set_cons_succ, heldD, List.flatMap_cons]
        congr 1
        exact ih i (by simpa using hi)
  rw [key K i hi]
def MoreIs (K : List HE) (i : Nat) (e : HE) (p : R5) (h : Heap) (v : Value) : Prop := ∃ q', HeadsIs h v (K.set i ⟨e.t, e.r, 0, 0, q', e.w, e.Q ++ [p]⟩)
theorem MoreIs.le {K : List HE} {i : Nat} {e : HE} {p : R5} {h h' : Heap} {v : Value} (m : MoreIs K i e p h v) (l : Le h h') : MoreIs K i e p h' v := by
  obtain ⟨q', s⟩ := m
  exact ⟨q', s.le l⟩
theorem more_end {K : List HE} {i : Nat} {e : HE} (hi : K[i]? = some e) {h0 h1 h5 : Heap} {b : Nat} {q0 v79 : Value} {p : R5} (hv : HeadsIs h0 (.slice (some ⟨0, 0, none⟩) 0 0) [] → True) (hq : ∀ k ∈ K, slV k.q = k.q ∧ Sl enc5 h0 k.q k.Q ∧ k.Q.length ≤ 12) (hl : K.length ≤ 20) (le05 : Le h0 h5) (hb0 : h0.nx ≤ b) (hb : b < h5.nx)
    (g5 : h5.bl.get b = some (cellsO ((K.set i (⟨e.t, e.r, 0, 0, q0, e.w, e.Q⟩ : HE)).flatMap encH) 33 true)) (ho : OwnR h1 h5 v79 (e.Q ++ [p])) :
    MoreIs K i e p ⟨h5.nx, h5.bl.upd b (cellsO ((K.set i (⟨e.t, e.r, 0, 0, v79, e.w, e.Q ++ [p]⟩ : HE)).flatMap encH) 33 true), h5.lo⟩ (.slice (some ⟨b, 0, none⟩) K.length openCap) := by
  have hil := (List.getElem?_eq_some_iff.1 hi).1
  have ho6 : OwnR h1 ⟨h5.nx, h5.bl.upd b (cellsO ((K.set i (⟨e.t, e.r, 0, 0, v79, e.w, e.Q ++ [p]⟩ : HE)).flatMap encH) 33 true), h5.lo⟩ v79 (e.Q ++ [p]) := Own.put ho (by rw [g5]; exact cells_ty (by decide)) _
  have le6 := le05.set (b := b) hb0 (cellsO ((K.set i (⟨e.t, e.r, 0, 0, v79, e.w, e.Q ++ [p]⟩ : HE)).flatMap encH) 33 true)
  have hel := (hq e (List.mem_of_getElem? hi)).2.2
  refine ⟨v79, ⟨?_, ?_, by rw [List.length_set]; exact hl⟩⟩
  · have := Sl.new (enc := encH) (h := ⟨h5.nx, h5.bl.upd b (cellsO ((K.set i (⟨e.t, e.r, 0, 0, v79, e.w, e.Q ++ [p]⟩ : HE)).flatMap encH) 33 true), h5.lo⟩) (b := b) (L := K.set i (⟨e.t, e.r, 0, 0, v79, e.w, e.Q ++ [p]⟩ : HE)) (e := 33) (op := true) hb (T.get_upd_same _ _ _) openCap
    rw [List.length_set] at this
    exact this
  · intro k hk
    rcases mem_set hk with rfl | hk
    · refine ⟨?_, ho6.sl, by simp only [List.length_append, List.length_cons, List.length_nil]; omega⟩
      obtain ⟨x, c, ev, _⟩ := (show Sl enc5 _ v79 _ from ho6.sl)
      rw [ev]; rfl
    · obtain ⟨h1, h2, h3⟩ := hq k hk
      exact ⟨h1, h2.le le6, by omega⟩
theorem cut_from3 {α : Type} {enc : α → List Value} {s : Nat} {e : Nat} {h : Heap} {v : Value} {L : List α} {i : Nat} (he : ∀ a : α, (enc a).length = s) (hs0 : 0 < s) (hs : Sl enc h v L) (c : Cut e s h v L.length) (hi : i ≤ L.length) :
    ∃ u, veq 8 u u = true ∧ Sl enc h u (L.drop i) ∧ ∀ (β : Type) (fl : β) (κ : Value → Heap → β), sliceB fl e s v (some (.int .i64 (i : Int))) none none h κ = κ u h := by
  have nilD : i = L.length → L.drop i = [] := fun e => List.drop_of_length_le (by omega)
  rcases c with ⟨c0, rfl⟩ | ⟨c0, b, o, rfl⟩ | ⟨b, o, cap, rfl, c1, c2⟩ | ⟨b, vs, n, rfl, c2, c3, c4, c5⟩
  · obtain rfl : i = 0 := by omega
    exact ⟨.slice none 0 0, veq_sln _ _, by rw [nilD (by omega)]; exact Sl.nil _ _ _, fun β fl κ => id rfl⟩
  · obtain rfl : i = 0 := by omega
    exact ⟨.slice (some ⟨b, o, none⟩) 0 anyCap, veq_sli _ _ _ _, by rw [nilD (by omega)]; exact Sl.nil _ _ _, fun β fl κ => id rfl⟩
  · have e1 : Nat.beq cap anyCap = false := by
      cases hq : Nat.beq cap anyCap with
      | false => rfl
      | true => have := beq_t hq; unfold anyCap at this; omega
    have e2 : Nat.beq cap openCap = false := by
      cases hq : Nat.beq cap openCap with
      | false => rfl
      | true => have := beq_t hq; unfold openCap at this; omega
    have e3 : Nat.ble cap 9223372036854775807 = true := Nat.ble_eq_true_of_le c2
    by_cases h0 : cap = i
    · subst h0
      refine ⟨.slice (some ⟨b, o, none⟩) 0 0, veq_sli _ _ _ _, by rw [nilD (by omega)]; exact Sl.nil _ _ _, fun β fl κ => ?_⟩
      unfold sliceB
      simp only [e1, e2, e3]
      rw [boundsFrom (by omega) (by omega)]
      unfold sliceOut
      rw [Nat.beq_refl]
      simp only [fnK_eq]
      show κ (.slice (some ⟨b, o, none⟩) (L.length - cap) 0) h = _
      rw [show L.length - cap = 0 by omega]
    · have e4 : Nat.beq cap i = false := by
        cases hq : Nat.beq cap i with
        | false => rfl
        | true => exact absurd (beq_t hq) h0
      by_cases hlt : i < L.length
      · refine ⟨.slice (some ⟨b, o + i * s, none⟩) (L.length - i) (cap - i), veq_sli _ _ _ _, hs.tail he hlt, fun β fl κ => ?_⟩
        unfold sliceB
        simp only [e1, e2, e3]
        rw [boundsFrom (by omega) (by omega)]
        unfold sliceOut
        simp only [e4, fnK_eq]
        rfl
      · refine ⟨.slice (some ⟨b, o + i * s, none⟩) 0 (cap - i), veq_sli _ _ _ _, by rw [nilD (by omega)]; exact Sl.nil _ _ _, fun β fl κ => ?_⟩
        unfold sliceB
        simp only [e1, e2, e3]
        rw [boundsFrom (by omega) (by omega)]
        unfold sliceOut
        simp only [e4, fnK_eq]
        show κ (.slice (some ⟨b, o + i * s, none⟩) (L.length - i) (cap - i)) h = _
        rw [show L.length - i = 0 by omega]
  · obtain ⟨s, rfl⟩ : ∃ k, s = k + 1 := ⟨s - 1, by omega⟩
    have hk : knownOf h e b = some (n * (s + 1)) := by unfold knownOf; rw [c3]; simp only [cellsO, beq_self_t, c4]
    have hd : Nat.div (Nat.sub (n * (s + 1)) 0) (s + 1) = n := by show (n * (s + 1) - 0) / (s + 1) = n; rw [Nat.sub_zero, Nat.mul_div_cancel _ (by omega)]
    have e1 : Nat.beq openCap anyCap = false := by decide
    have e2 : Nat.beq openCap openCap = true := Nat.beq_refl _
    have e3 : Nat.ble 0 (n * (s + 1)) = true := Nat.ble_eq_true_of_le (Nat.zero_le _)
    by_cases h0 : i = n
    · subst h0
      refine ⟨.slice (some ⟨b, 0, none⟩) 0 anyCap, veq_sli _ _ _ _, by rw [nilD (by omega)]; exact Sl.nil _ _ _, fun β fl κ => ?_⟩
      unfold sliceB
      simp only [e1, e2, hk, e3, hd]
      rw [boundsFrom hi c5]
      simp only [e2, beq_self_t]
    · have e4 : Nat.beq i n = false := by
        cases hq : Nat.beq i n with
        | false => rfl
        | true => exact absurd (beq_t hq) h0
      by_cases hlt : i < L.length
      · refine ⟨.slice (some ⟨b, 0 + i * (s + 1), none⟩) (L.length - i) openCap, veq_sli _ _ _ _, hs.tail he hlt, fun β fl κ => ?_⟩
        unfold sliceB
        simp only [e1, e2, hk, e3, hd]
        rw [boundsFrom hi c5]
        simp only [e2, e4, fnK_eq]
        rfl
      · refine ⟨.slice (some ⟨b, 0 + i * (s + 1), none⟩) 0 openCap, veq_sli _ _ _ _, by rw [nilD (by omega)]; exact Sl.nil _ _ _, fun β fl κ => ?_⟩
        unfold sliceB
        simp only [e1, e2, hk, e3, hd]
        rw [boundsFrom hi c5]
        simp only [e2, e4, fnK_eq]
        show κ (.slice (some ⟨b, 0 + i * (s + 1), none⟩) (L.length - i) openCap) h = _
        rw [show L.length - i = 0 by omega]
theorem cut_veq {e s : Nat} {h : Heap} {v : Value} {k : Nat} (c : Cut e s h v k) : veq 8 v v = true := by
  rcases c with ⟨_, rfl⟩ | ⟨_, b, o, rfl⟩ | ⟨b, o, cap, rfl, _⟩ | ⟨b, vs, n, rfl, _⟩
  · exact veq_sln _ _
  · exact veq_sli _ _ _ _
  · exact veq_sli _ _ _ _
  · exact veq_sli _ _ _ _
theorem cut_from2 {α : Type} {enc : α → List Value} {e s : Nat} {h : Heap} {v : Value} {L : List α} {i : Nat} (he : ∀ a : α, (enc a).length = s) (hs0 : 0 < s) (hs : Sl enc h v L) (c : Cut e s h v L.length) (hi : i ≤ L.length) :
    ∃ u, veq 8 u u = true ∧ Sl enc h u (L.drop i) ∧ ∀ (h' : Heap), Le h h' → ∀ (β : Type) (fl : β) (κ : Value → Heap → β), sliceB fl e s v (some (.int .i64 (i : Int))) none none h' κ = κ u h' := by
  obtain ⟨u, hv, hu, hf⟩ := cut_from3 he hs0 hs c hi
  refine ⟨u, hv, hu, fun h' l β fl κ => ?_⟩
  have key : sliceB fl e s v (some (.int .i64 (i : Int))) none none h' κ = sliceB fl e s v (some (.int .i64 (i : Int))) none none h (fun u _ => κ u h') := by
    rcases c with ⟨_, rfl⟩ | ⟨_, b, o, rfl⟩ | ⟨b, o, cap, rfl, _, hcap⟩ | ⟨b, vs, n, rfl, hb, _⟩
    · rfl
    · rfl
    · unfold sliceB
      have e1 : Nat.beq cap anyCap = false := by
        cases hq : Nat.beq cap anyCap with
        | false => rfl
        | true => have := beq_t hq; unfold anyCap at this; omega
      have e2 : Nat.beq cap openCap = false := by
        cases hq : Nat.beq cap openCap with
        | false => rfl
        | true => have := beq_t hq; unfold openCap at this; omega
      simp only [e1, e2]
    · unfold sliceB
      have : knownOf h' e b = knownOf h e b := by unfold knownOf; rw [l.get b hb]
      simp only [this]
  rw [key, hf]
theorem lawParts_w (c : Caps) (which : Int) (K : List HE) (v : Value) (h : Heap) (sl : Sl encH h v K) (hq : ∀ k ∈ K, slV k.q = k.q ∧ Sl enc5 h k.q k.Q) (hc : Cut 33 4 h v K.length) (hlo : h.lo ≤ h.nx) (κ : Value → Heap → Prop) (hk : ∀ h', κ (.bool true) h') :
    CallW Tryd.prog 3 [v, capsV c, .int .i64 which] h κ := by
  refine callW_of mixed ?_
  rw [rs_3]
  obtain ⟨vx, vc, ev, _⟩ := (show Sl encH h v K from sl)
  have hlen : ∀ (β : Type) (fl : β) (h' : Heap) (κ : Value → Heap → β), lenSli fl v h' κ = κ (.int .i64 (K.length : Int)) h' := fun β fl h' κ => by rw [ev]; exact lenSli_eq _ _ _ _ _
  simp(disch:=first|omega|(simp only[Wx];done)|(simp only[Wy];done)|(simp only[Wv];omega)|with_unfolding_all rfl)only[Wz,ptrTo,sliceTo, capsV]
  obtain ⟨hA, e_hA⟩ : ∃ hA : Heap, hA = ⟨h.nx + 1, (h.bl.upd (h.nx) (cellsO [.int .i64 c.S, .int .i64 c.H, .int .i64 c.R, .int .i64 c.P] 24 false)), h.lo⟩ := ⟨_, rfl⟩
  have le_hA : Le h hA := by subst e_hA; exact ((Le.refl h).new _)
  have gc : hA.bl.get (h.nx) = some (cellsO [.int .i64 c.S, .int .i64 c.H, .int .i64 c.R, .int .i64 c.P] 24 false) := by subst e_hA; exact T.get_upd_same _ _ _
  have n_hA : hA.nx = h.nx + 1 := by subst e_hA; rfl
  have l_hA : hA.lo = h.lo := by subst e_hA; rfl
  rw [← e_hA]
  clear e_hA
  refine lives_w ?_
  simp(disch:=first|omega|(simp only[Wx];done)|(simp only[Wy];done)|(simp only[Wv];omega)|with_unfolding_all rfl)only[Wz,ptrTo,sliceTo, rs_3_5]
  refine light_w K v hA _ (sl.le le_hA) (fun k hk => ⟨(hq k hk).1, (hq k hk).2.le le_hA⟩) ?_ ?_
  · simp(disch:=first|omega|(simp only[Wx];done)|(simp only[Wy];done)|(simp only[Wv];omega)|with_unfolding_all rfl)only[Wz,ptrTo,sliceTo]
    exact hk _
  intro hl20 hl12
  by_cases hK0 : K.length = 0
  · simp(disch:=first|omega|(simp only[Wx];done)|(simp only[Wy];done)|(simp only[Wv];omega)|with_unfolding_all rfl)only[Wz,ptrTo,sliceTo, hlen, dec_t (show (K.length : Int) = 0 by omega)]
    exact hk _
  simp(disch:=first|omega|(simp only[Wx];done)|(simp only[Wy];done)|(simp only[Wv];omega)|with_unfolding_all rfl)only[Wz,ptrTo,sliceTo, hlen, dec_f (show ¬ (K.length : Int) = 0 by omega), rs_3_4]
  have hpr := pickM_range (n := which) (m := (K.length : Int)) (by omega)
  refine pick_w which (K.length : Int) (by omega) ?_
  obtain ⟨i, ei⟩ : ∃ i : Nat, pickM which (K.length : Int) = (i : Int) := ⟨(pickM which (K.length : Int)).toNat, by omega⟩
  rw [ei]
  have hil : i < K.length := by omega
  obtain ⟨e, he⟩ : ∃ e, K[i]? = some e := ⟨_, List.getElem?_eq_getElem hil⟩
  have eK := List.mem_of_getElem? he
  have slA := sl.le le_hA
  obtain ⟨q1, q2⟩ := hq e eK
  have hcell : encH e = [.int .i64 e.t, .int .i64 e.r, e.q, .int .i64 e.w] := by unfold encH; rw [q1]
  have qe12 := hl12 e eK
  have f00 := flat_length encH_len K
  have hKis : ∀ h', Le h h' → HeadsIs h' v K := fun h' l => ⟨sl.le l, fun k hk => ⟨(hq k hk).1, (hq k hk).2.le l, by have := hl12 k hk; omega⟩, hl20⟩
  obtain ⟨u1, su1, _, e1⟩ := Cut.to encH_len (by decide) slA (hc.le le_hA) (show i ≤ K.length by omega)
  obtain ⟨u2, veq2, su2, e2⟩ := cut_from2 encH_len (by decide) slA (hc.le le_hA) (show i + 1 ≤ K.length by omega)
  have ei1 : (i : Int) + 1 = ((i + 1 : Nat) : Int) := by omega
  have e2A := fun β fl κ => e2 hA (Le.refl _) β fl κ
  obtain ⟨y2, c2, ey2, _⟩ := id su2
  subst ey2
  simp(disch:=first|omega|(simp only[Wx];done)|(simp only[Wy];done)|(simp only[Wv];omega)|with_unfolding_all rfl)only[Wz,ptrTo,sliceTo, ei1, e1, e2A]
  refine ownH_w (K.take i) u1 hA _ su1 (by rw [List.length_take]; omega) (by omega) ?_
  intro v1 h1 ho1 le1
  have n1 := le1.nx
  have l1 := le1.lo
  have e21 := fun β fl κ => e2 h1 le1 β fl κ
  have gc1 := (le1.get _ (by omega)).trans gc
  obtain ⟨vx', vc', ev', _⟩ := id sl
  subst ev'
  have veqv := cut_veq hc
  simp(disch:=first|omega|(simp only[Wx];done)|(simp only[Wy];done)|(simp only[Wv];omega)|with_unfolding_all rfl)only[Wz,ptrTo,sliceTo, ei1, e21, veq2, veqv]
  refine append_in (enc := encH) (a := hA) (L := K.take i) (M := K.drop (i + 1)) encH_len encH_one (by decide) (by decide) ho1 (su2.le le1) le1 (by rw [List.length_take, List.length_drop]; omega) (by omega) _ ?_
  intro v2 h2 ho2 le2 _ n2 l2 _
  have gc2 := (le2.get _ (by omega)).trans gc
  rw [← List.eraseIdx_eq_take_drop_succ] at ho2
  have hless : ∀ h', Le h2 h' → HeadsIs h' v2 (K.eraseIdx i) := fun h' l => ⟨ho2.sl.le l, fun k hk => by
    have hkK := List.mem_of_mem_eraseIdx hk
    exact ⟨(hq k hkK).1, (hq k hkK).2.le ((le_hA.trans le2).trans l), by have := hl12 k hkK; omega⟩, by have := List.length_eraseIdx_le (l := K) (i := i); omega⟩
  have le02 := le_hA.trans le2
  suffices hrest : ∀ hZ, Le h hZ → h2.nx ≤ hZ.nx → hZ.bl.get h.nx = some (cellsO [.int .i64 c.S, .int .i64 c.H, .int .i64 c.R, .int .i64 c.P] 24 false) → rs_3_3 (.slice vx' K.length vc') (.int .i64 (i : Int)) h.nx hZ κ by
    simp(disch:=first|omega|(simp only[Wx];done)|(simp only[Wy];done)|(simp only[Wv];omega)|with_unfolding_all rfl)only[Wz,ptrTo,sliceTo, gc2]
    refine drained_w c K _ h2 _ (hKis h2 le02) (by omega) ?_
    intro h3 le3
    have n3 := le3.nx
    have l3 := le3.lo
    have gc3 := (le3.get _ (by omega)).trans gc2
    cases hd : drainedD K c with
    | true =>
      simp(disch:=first|omega|(simp only[Wx];done)|(simp only[Wy];done)|(simp only[Wv];omega)|with_unfolding_all rfl)only[Wz,ptrTo,sliceTo, gc3]
      refine drained_w c (K.eraseIdx i) v2 h3 _ (hless h3 le3) (by omega) ?_
      intro h4 le4
      have n4 := le4.nx
      have l4 := le4.lo
      have gc4 := (le4.get _ (by omega)).trans gc3
      rw [drained_erase hd i]
      simp(disch:=first|omega|(simp only[Wx];done)|(simp only[Wy];done)|(simp only[Wv];omega)|with_unfolding_all rfl)only[Wz,ptrTo,sliceTo, gc4]
      refine drWithin_w c K _ h4 _ (hKis h4 ((le02.trans le3).trans le4)) (by omega) ?_
      intro h5 le5
      have n5 := le5.nx
      have l5 := le5.lo
      have gc5 := (le5.get _ (by omega)).trans gc4
      rw [drained_within hd]
      simp(disch:=first|omega|(simp only[Wx];done)|(simp only[Wy];done)|(simp only[Wv];omega)|with_unfolding_all rfl)only[Wz,ptrTo,sliceTo, gc5]
      refine drWithin_w c K _ h5 _ (hKis h5 (((le02.trans le3).trans le4).trans le5)) (by omega) ?_
      intro h6 le6
      have n6 := le6.nx
      have l6 := le6.lo
      have gc6 := (le6.get _ (by omega)).trans gc5
      rw [drained_within hd]
      simp(disch:=first|omega|(simp only[Wx];done)|(simp only[Wy];done)|(simp only[Wv];omega)|with_unfolding_all rfl)only[Wz,ptrTo,sliceTo, gc6]
      refine drWithin_w c (K.eraseIdx i) v2 h6 _ (hless h6 (((le3.trans le4).trans le5).trans le6)) (by omega) ?_
      intro h7 le7
      have n7 := le7.nx
      have l7 := le7.lo
      have gc7 := (le7.get _ (by omega)).trans gc6
      rw [within_erase (drained_within hd) i]
      simp(disch:=first|omega|(simp only[Wx];done)|(simp only[Wy];done)|(simp only[Wv];omega)|with_unfolding_all rfl)only[Wz,ptrTo,sliceTo]
      exact hrest h7 ((((le02.trans le3).trans le4).trans le5).trans (le6.trans le7)) (by omega) gc7
    | false =>
      simp(disch:=first|omega|(simp only[Wx];done)|(simp only[Wy];done)|(simp only[Wv];omega)|with_unfolding_all rfl)only[Wz,ptrTo,sliceTo, gc3]
      refine drWithin_w c K _ h3 _ (hKis h3 (le02.trans le3)) (by omega) ?_
      intro h6 le6
      have n6 := le6.nx
      have l6 := le6.lo
      have gc6 := (le6.get _ (by omega)).trans gc3
      cases hw : withinD K c with
      | false =>
        simp(disch:=first|omega|(simp only[Wx];done)|(simp only[Wy];done)|(simp only[Wv];omega)|with_unfolding_all rfl)only[Wz,ptrTo,sliceTo]
        exact hrest h6 ((le02.trans le3).trans le6) (by omega) gc6
      | true =>
        simp(disch:=first|omega|(simp only[Wx];done)|(simp only[Wy];done)|(simp only[Wv];omega)|with_unfolding_all rfl)only[Wz,ptrTo,sliceTo, gc6]
        refine drWithin_w c (K.eraseIdx i) v2 h6 _ (hless h6 (le3.trans le6)) (by omega) ?_
        intro h7 le7
        have n7 := le7.nx
        have l7 := le7.lo
        have gc7 := (le7.get _ (by omega)).trans gc6
        rw [within_erase hw i]
        simp(disch:=first|omega|(simp only[Wx];done)|(simp only[Wy];done)|(simp only[Wv];omega)|with_unfolding_all rfl)only[Wz,ptrTo,sliceTo]
        exact hrest h7 (((le02.trans le3).trans le6).trans le7) (by omega) gc7
  intro hZ lehZ nZ gcZ
  have lZ := lehZ.lo
  simp(disch:=first|omega|(simp only[Wx];done)|(simp only[Wy];done)|(simp only[Wv];omega)|with_unfolding_all rfl)only[Wz,ptrTo,sliceTo, rs_3_3]
  refine ownH_w K _ hZ _ (sl.le lehZ) (by omega) (by omega) ?_
  intro vP hP1 hoP1 leP1
  have nP1 := leP1.nx
  have lP1 := leP1.lo
  rcases hoP1 with ⟨h00, _⟩ | ⟨bP, rfl, hP3, hP4, hP5, hP6⟩
  · rw [h00] at he; simp at he
  have rP := rdE encH_len hP6 he
  rw [hcell] at rP
  simp(disch:=first|omega|(simp only[Wx];done)|(simp only[Wy];done)|(simp only[Wv];omega)|with_unfolding_all rfl)only[Wz,ptrTo,sliceTo, indexAddr_eq, rP]
  refine ownHead_w e.t e.r e.w e.q e.Q hP1 _ (q2.le (lehZ.trans leP1)) (by omega) (by omega) ?_
  intro qP hP2 hoP2 leP2
  have nP2 := leP2.nx
  have lP2 := leP2.lo
  have gP2 := (leP2.get _ hP4).trans hP6
  obtain ⟨xP, cP, eqP, _⟩ := (show Sl enc5 hP2 qP e.Q from hoP2.sl)
  subst eqP
  have ovP := over_set encH_len (p' := (⟨e.t, e.r, 0, 0, .slice xP e.Q.length cP, e.w, e.Q⟩ : HE)) he
  rw [show encH (⟨e.t, e.r, 0, 0, .slice xP e.Q.length cP, e.w, e.Q⟩ : HE) = [.int .i64 e.t, .int .i64 e.r, .slice xP e.Q.length cP, .int .i64 e.w] from rfl] at ovP
  have hsP : (K.set i (⟨e.t, e.r, 0, 0, .slice xP e.Q.length cP, e.w, e.Q⟩ : HE))[i]? = some ⟨e.t, e.r, 0, 0, .slice xP e.Q.length cP, e.w, e.Q⟩ := by rw [List.getElem?_set, if_pos rfl, if_pos hil]
  have fP := flat_length encH_len (K.set i (⟨e.t, e.r, 0, 0, .slice xP e.Q.length cP, e.w, e.Q⟩ : HE))
  rw [List.length_set] at fP
  have rdP := flat_read (j := 2) encH_len hsP (by decide)
  rw [show encH (⟨e.t, e.r, 0, 0, .slice xP e.Q.length cP, e.w, e.Q⟩ : HE) = [.int .i64 e.t, .int .i64 e.r, .slice xP e.Q.length cP, .int .i64 e.w] from rfl] at rdP
  simp(disch:=first|omega|(simp only[Wx];done)|(simp only[Wy];done)|(simp only[Wv];omega)|with_unfolding_all rfl)only[Wz,ptrTo,sliceTo, hdV, indexAddr_eq, gP2, ovP, rdP]
  obtain ⟨hPc, ePc⟩ : ∃ hh : Heap, hh = ⟨hP2.nx + 1, (hP2.bl.upd bP (cellsO ((K.set i (⟨e.t, e.r, 0, 0, .slice xP e.Q.length cP, e.w, e.Q⟩ : HE)).flatMap encH) 33 true)).upd hP2.nx (cellsO [.int .i64 99, .int .i64 (-1), .int .i64 0, .int .i64 3, .int .i64 1] 38 false), hP2.lo⟩ := ⟨_, rfl⟩
  have lePc : Le hZ hPc := by rw [ePc]; exact ((leP1.trans leP2).set hP3 _).new _
  have gPc : hPc.bl.get bP = some (cellsO ((K.set i (⟨e.t, e.r, 0, 0, .slice xP e.Q.length cP, e.w, e.Q⟩ : HE)).flatMap encH) 33 true) := by rw [ePc]; exact (T.get_updne _ _ (by omega)).trans (T.get_upd_same _ _ _)
  have gpP : hPc.bl.get hP2.nx = some (cellsO ([(⟨99, -1, 0, 3, 1⟩ : R5)].flatMap enc5) 38 false) := by rw [ePc]; exact T.get_upd_same _ _ _
  have nPc : hPc.nx = hP2.nx + 1 := by rw [ePc]
  have lPc : hPc.lo = hP2.lo := by rw [ePc]
  have hoPc : OwnR hP1 hPc (.slice xP e.Q.length cP) e.Q := by
    rw [ePc]
    exact Own.le (Own.put hoP2 (by rw [gP2]; exact cells_ty (by decide)) _) ((Le.refl _).new _)
  have leP1c : Le hP1 hPc ∨ True := .inr trivial
  try rw [← ePc]
  clear ePc
  refine append_in (enc := enc5) (a := hZ) (L := e.Q) (M := [(⟨99, -1, 0, 3, 1⟩ : R5)]) enc5_len enc5_one (by decide) (by decide) (Own.base hoPc (by omega)) (Sl.new (by omega) gpP _) lePc (by simp only [List.length_cons, List.length_nil]; omega) (by omega) _ ?_
  intro wP hPd hoPd lePd _ nPd lPd sameP
  have gPd := (sameP bP (by omega) (by rw [gPc]; exact cells_ty (by decide))).trans gPc
  obtain ⟨yP, dP, ewP, _⟩ := (show Sl enc5 hPd wP _ from hoPd.sl)
  subst ewP
  have ofP := over_field (j := 2) (ws := [.slice yP (e.Q ++ [(⟨99, -1, 0, 3, 1⟩ : R5)]).length dP]) (p' := (⟨e.t, e.r, 0, 0, .slice yP (e.Q ++ [(⟨99, -1, 0, 3, 1⟩ : R5)]).length dP, e.w, e.Q ++ [(⟨99, -1, 0, 3, 1⟩ : R5)]⟩ : HE)) encH_len hsP (by show 2 + 1 ≤ 4; omega) rfl
  rw [List.set_set] at ofP
  simp(disch:=first|omega|(simp only[Wx];done)|(simp only[Wy];done)|(simp only[Wv];omega)|with_unfolding_all rfl)only[Wz,ptrTo,sliceTo, indexAddr_eq, gPd, ofP]
  have mP := more_end he (q0 := .slice xP e.Q.length cP) (fun _ => trivial) (fun k hk => ⟨(hq k hk).1, (hq k hk).2.le lehZ, hl12 k hk⟩) hl20 lePd hP3 (by omega) gPd hoPd
  obtain ⟨hP, eP⟩ : ∃ hh : Heap, hh = ⟨hPd.nx, hPd.bl.upd bP (cellsO ((K.set i (⟨e.t, e.r, 0, 0, .slice yP (e.Q ++ [(⟨99, -1, 0, 3, 1⟩ : R5)]).length dP, e.w, e.Q ++ [(⟨99, -1, 0, 3, 1⟩ : R5)]⟩ : HE)).flatMap encH) 33 true), hPd.lo⟩ := ⟨_, rfl⟩
  have lehP' : Le hZ hP := by rw [eP]; exact lePd.set hP3 _
  have lehP : Le h hP := lehZ.trans lehP'
  have nhP : hP.nx = hPd.nx := by rw [eP]
  rw [← eP] at mP ⊢
  clear eP
  have lhP := lehP.lo
  refine ownH_w K _ hP _ (sl.le lehP) (by omega) (by omega) ?_
  intro vQ hQ1 hoQ1 leQ1
  have nQ1 := leQ1.nx
  have lQ1 := leQ1.lo
  rcases hoQ1 with ⟨h00, _⟩ | ⟨bQ, rfl, hQ3, hQ4, hQ5, hQ6⟩
  · rw [h00] at he; simp at he
  have rQ := rdE encH_len hQ6 he
  rw [hcell] at rQ
  simp(disch:=first|omega|(simp only[Wx];done)|(simp only[Wy];done)|(simp only[Wv];omega)|with_unfolding_all rfl)only[Wz,ptrTo,sliceTo, indexAddr_eq, rQ]
  refine ownHead_w e.t e.r e.w e.q e.Q hQ1 _ (q2.le (lehP.trans leQ1)) (by omega) (by omega) ?_
  intro qQ hQ2 hoQ2 leQ2
  have nQ2 := leQ2.nx
  have lQ2 := leQ2.lo
  have gQ2 := (leQ2.get _ hQ4).trans hQ6
  obtain ⟨xQ, cQ, eqQ, _⟩ := (show Sl enc5 hQ2 qQ e.Q from hoQ2.sl)
  subst eqQ
  have ovQ := over_set encH_len (p' := (⟨e.t, e.r, 0, 0, .slice xQ e.Q.length cQ, e.w, e.Q⟩ : HE)) he
  rw [show encH (⟨e.t, e.r, 0, 0, .slice xQ e.Q.length cQ, e.w, e.Q⟩ : HE) = [.int .i64 e.t, .int .i64 e.r, .slice xQ e.Q.length cQ, .int .i64 e.w] from rfl] at ovQ
  have hsQ : (K.set i (⟨e.t, e.r, 0, 0, .slice xQ e.Q.length cQ, e.w, e.Q⟩ : HE))[i]? = some ⟨e.t, e.r, 0, 0, .slice xQ e.Q.length cQ, e.w, e.Q⟩ := by rw [List.getElem?_set, if_pos rfl, if_pos hil]
  have fQ := flat_length encH_len (K.set i (⟨e.t, e.r, 0, 0, .slice xQ e.Q.length cQ, e.w, e.Q⟩ : HE))
  rw [List.length_set] at fQ
  have rdQ := flat_read (j := 2) encH_len hsQ (by decide)
  rw [show encH (⟨e.t, e.r, 0, 0, .slice xQ e.Q.length cQ, e.w, e.Q⟩ : HE) = [.int .i64 e.t, .int .i64 e.r, .slice xQ e.Q.length cQ, .int .i64 e.w] from rfl] at rdQ
  simp(disch:=first|omega|(simp only[Wx];done)|(simp only[Wy];done)|(simp only[Wv];omega)|with_unfolding_all rfl)only[Wz,ptrTo,sliceTo, hdV, indexAddr_eq, gQ2, ovQ, rdQ]
  obtain ⟨hQc, eQc⟩ : ∃ hh : Heap, hh = ⟨hQ2.nx + 1, (hQ2.bl.upd bQ (cellsO ((K.set i (⟨e.t, e.r, 0, 0, .slice xQ e.Q.length cQ, e.w, e.Q⟩ : HE)).flatMap encH) 33 true)).upd hQ2.nx (cellsO [.int .i64 99, .int .i64 5, .int .i64 1, .int .i64 1, .int .i64 0] 38 false), hQ2.lo⟩ := ⟨_, rfl⟩
  have leQc : Le hP hQc := by rw [eQc]; exact ((leQ1.trans leQ2).set hQ3 _).new _
  have gQc : hQc.bl.get bQ = some (cellsO ((K.set i (⟨e.t, e.r, 0, 0, .slice xQ e.Q.length cQ, e.w, e.Q⟩ : HE)).flatMap encH) 33 true) := by rw [eQc]; exact (T.get_updne _ _ (by omega)).trans (T.get_upd_same _ _ _)
  have gpQ : hQc.bl.get hQ2.nx = some (cellsO ([(⟨99, 5, 1, 1, 0⟩ : R5)].flatMap enc5) 38 false) := by rw [eQc]; exact T.get_upd_same _ _ _
  have nQc : hQc.nx = hQ2.nx + 1 := by rw [eQc]
  have lQc : hQc.lo = hQ2.lo := by rw [eQc]
  have hoQc : OwnR hQ1 hQc (.slice xQ e.Q.length cQ) e.Q := by
    rw [eQc]
    exact Own.le (Own.put hoQ2 (by rw [gQ2]; exact cells_ty (by decide)) _) ((Le.refl _).new _)
  have leQ1c : Le hQ1 hQc ∨ True := .inr trivial
  try rw [← eQc]
  clear eQc
  refine append_in (enc := enc5) (a := hP) (L := e.Q) (M := [(⟨99, 5, 1, 1, 0⟩ : R5)]) enc5_len enc5_one (by decide) (by decide) (Own.base hoQc (by omega)) (Sl.new (by omega) gpQ _) leQc (by simp only [List.length_cons, List.length_nil]; omega) (by omega) _ ?_
  intro wQ hQd hoQd leQd _ nQd lQd sameQ
  have gQd := (sameQ bQ (by omega) (by rw [gQc]; exact cells_ty (by decide))).trans gQc
  obtain ⟨yQ, dQ, ewQ, _⟩ := (show Sl enc5 hQd wQ _ from hoQd.sl)
  subst ewQ
  have ofQ := over_field (j := 2) (ws := [.slice yQ (e.Q ++ [(⟨99, 5, 1, 1, 0⟩ : R5)]).length dQ]) (p' := (⟨e.t, e.r, 0, 0, .slice yQ (e.Q ++ [(⟨99, 5, 1, 1, 0⟩ : R5)]).length dQ, e.w, e.Q ++ [(⟨99, 5, 1, 1, 0⟩ : R5)]⟩ : HE)) encH_len hsQ (by show 2 + 1 ≤ 4; omega) rfl
  rw [List.set_set] at ofQ
  simp(disch:=first|omega|(simp only[Wx];done)|(simp only[Wy];done)|(simp only[Wv];omega)|with_unfolding_all rfl)only[Wz,ptrTo,sliceTo, indexAddr_eq, gQd, ofQ]
  have mQ := more_end he (q0 := .slice xQ e.Q.length cQ) (fun _ => trivial) (fun k hk => ⟨(hq k hk).1, (hq k hk).2.le lehP, hl12 k hk⟩) hl20 leQd hQ3 (by omega) gQd hoQd
  obtain ⟨hQ, eQ⟩ : ∃ hh : Heap, hh = ⟨hQd.nx, hQd.bl.upd bQ (cellsO ((K.set i (⟨e.t, e.r, 0, 0, .slice yQ (e.Q ++ [(⟨99, 5, 1, 1, 0⟩ : R5)]).length dQ, e.w, e.Q ++ [(⟨99, 5, 1, 1, 0⟩ : R5)]⟩ : HE)).flatMap encH) 33 true), hQd.lo⟩ := ⟨_, rfl⟩
  have lehQ' : Le hP hQ := by rw [eQ]; exact leQd.set hQ3 _
  have lehQ : Le h hQ := lehP.trans lehQ'
  have nhQ : hQ.nx = hQd.nx := by rw [eQ]
  rw [← eQ] at mQ ⊢
  clear eQ
  have lhQ := lehQ.lo
  have gcP := (lehP'.get _ (by omega)).trans gcZ
  have gcQ := (lehQ'.get _ (by omega)).trans gcP
  have hKQ := hKis hQ lehQ
  refine ⟨fun n l h1 => ∃ i2 : Nat, slot l 42 = .int .i64 (i2 : Int) ∧ slot l 36 = .int .i64 ((heldD (K.take i2)).length : Int) ∧ n = K.length - i2 ∧ i2 ≤ K.length ∧ HQ hQ h1, ⟨_, 0, rfl, rfl, rfl, Nat.zero_le _, rfl⟩, ?_⟩
  rintro n l hx ⟨i2, s1, s2, rfl, hi2, hqq⟩
  cases (show hQ = hx from hqq)
  have hbd : ∀ k, (heldD (K.take k)).length ≤ 260 := by
    intro k
    have h2 := heldD_len (K := K.take k) fun x hx => by have := hl12 x (List.mem_of_mem_take hx); omega
    have htl : (K.take k).length ≤ K.length := by rw [List.length_take]; omega
    omega
  have hbi := hbd i2
  by_cases hlt : i2 < K.length
  · obtain ⟨e2, he2⟩ : ∃ e2, K[i2]? = some e2 := ⟨_, List.getElem?_eq_getElem hlt⟩
    have e2K := List.mem_of_getElem? he2
    obtain ⟨q1', q2', q3'⟩ := hKQ.q e2 e2K
    obtain ⟨b0, o0, hb0, hx0, hr0⟩ := ldHs hKQ.sl i2 he2 q1'
    have R1 := hr0 hQ (Le.refl hQ)
    obtain ⟨qx, qc, eqq, _⟩ := (show Sl enc5 hQ e2.q e2.Q from q2')
    rw [eqq] at R1
    simp(disch:=first|omega|(simp only[Wx];done)|(simp only[Wy];done)|(simp only[Wv];omega)|with_unfolding_all rfl)only[Wz,ptrTo,sliceTo, s1, lt_t (show (i2 : Int) < (K.length : Int) by omega), s2]
    refine ⟨fun n l3 h3 => ∃ j : Nat, slot l3 35 = .int .i64 (j : Int) ∧ slot l3 32 = .int .i64 (((heldD (K.take i2)).length + (heldQD e2.t e2.r (e2.Q.take j)).length : Nat) : Int) ∧ n = e2.Q.length - j ∧ j ≤ e2.Q.length ∧ HQ hQ h3, ⟨_, 0, rfl, rfl, rfl, Nat.zero_le _, rfl⟩, ?_⟩
    rintro n l3 hx ⟨j, s3, s4, rfl, hj, hqq⟩
    cases (show hQ = hx from hqq)
    have hql := heldQD_len e2.t e2.r (e2.Q.take j)
    have htl : (e2.Q.take j).length ≤ e2.Q.length := by rw [List.length_take]; omega
    by_cases hjl : j < e2.Q.length
    · obtain ⟨p, hp⟩ : ∃ p, e2.Q[j]? = some p := ⟨_, List.getElem?_eq_getElem hjl⟩
      obtain ⟨b4, o4, _, hx4, hp4⟩ := ld5 q2' j hp
      rw [eqq] at hx4
      have hstep := heldQD_take (t := e2.t) (r := e2.r) hp
      simp(disch:=first|omega|(simp only[Wx];done)|(simp only[Wy];done)|(simp only[Wv];omega)|with_unfolding_all rfl)only[Wz,ptrTo,sliceTo, rs_3_1, s1, s3, hx0, R1, lt_t (show (j : Int) < (e2.Q.length : Int) by omega)]
      refine ⟨fun l' h' => slot l' 24 = .int .i64 (((heldD (K.take i2)).length + (heldQD e2.t e2.r (e2.Q.take (j + 1))).length : Nat) : Int) ∧ HQ hQ h', ?_, ?_⟩
      · by_cases hx' : p.x < 0
        · by_cases hm : p.m = 0
          · simp(disch:=first|omega|(simp only[Wx];done)|(simp only[Wy];done)|(simp only[Wv];omega)|with_unfolding_all rfl)only[Wz,ptrTo,sliceTo, rs_3_0, s1, s3, s4, hx0, R1, hx4, hp4, dec_t hx', dec_t hm]
            refine ⟨?_, rfl⟩
            rw [hstep, if_neg (fun h => h.2 hm), List.append_nil]
            all_goals (first | rfl | exact s4)
          · simp(disch:=first|omega|(simp only[Wx];done)|(simp only[Wy];done)|(simp only[Wv];omega)|with_unfolding_all rfl)only[Wz,ptrTo,sliceTo, rs_3_0, s1, s3, s4, hx0, R1, hx4, hp4, dec_t hx', dec_f hm]
            refine ⟨?_, rfl⟩
            rw [hstep, if_pos ⟨hx', hm⟩, List.length_append]
            rfl
        · simp(disch:=first|omega|(simp only[Wx];done)|(simp only[Wy];done)|(simp only[Wv];omega)|with_unfolding_all rfl)only[Wz,ptrTo,sliceTo, rs_3_0, s1, s3, s4, hx0, R1, hx4, hp4, dec_f hx']
          refine ⟨?_, rfl⟩
          rw [hstep, if_neg (fun h => hx' h.1), List.append_nil]
          all_goals (first | rfl | exact s4)
      · rintro l' h' ⟨t1, hqq⟩
        cases (show hQ = h' from hqq)
        exact ⟨_, by omega, j + 1, rfl, t1, rfl, by omega, rfl⟩
    · have hjQ : j = e2.Q.length := by omega
      subst hjQ
      rw [List.take_length] at s4
      simp(disch:=first|omega|(simp only[Wx];done)|(simp only[Wy];done)|(simp only[Wv];omega)|with_unfolding_all rfl)only[Wz,ptrTo,sliceTo, rs_3_1, s1, s3, hx0, R1, lt_f (show (e2.Q.length : Int) ≤ (e2.Q.length : Int) by omega)]
      refine ⟨_, by omega, i2 + 1, rfl, ?_, rfl, by omega, rfl⟩
      rw [heldD_take he2, List.length_append]
      exact s4
  · have hil2 : i2 = K.length := by omega
    subst hil2
    rw [List.take_length] at s2
    obtain ⟨qP, sP⟩ := mP.le lehQ'
    obtain ⟨qQ, sQ⟩ := mQ
    have dP : drainedD (K.set i ⟨e.t, e.r, 0, 0, qP, e.w, e.Q ++ [⟨99, -1, 0, 3, 1⟩]⟩) c = false :=
      drained_not (List.mem_of_getElem? (i := i) (by rw [List.getElem?_set, if_pos rfl, if_pos hil])) (p := ⟨99, -1, 0, 3, 1⟩) (List.mem_append_right _ (.head _)) rfl
    have dQ : drainedD (K.set i ⟨e.t, e.r, 0, 0, qQ, e.w, e.Q ++ [⟨99, 5, 1, 1, 0⟩]⟩) c = false :=
      drained_not (List.mem_of_getElem? (i := i) (by rw [List.getElem?_set, if_pos rfl, if_pos hil])) (p := ⟨99, 5, 1, 1, 0⟩) (List.mem_append_right _ (.head _)) rfl
    have hn : (heldD (K.set i ⟨e.t, e.r, 0, 0, qQ, e.w, e.Q ++ [⟨99, 5, 1, 1, 0⟩]⟩)).length = (heldD K).length := held_set he (by unfold heldQD; rw [List.filter_append]; simp)
    simp(disch:=first|omega|(simp only[Wx];done)|(simp only[Wy];done)|(simp only[Wv];omega)|with_unfolding_all rfl)only[Wz,ptrTo,sliceTo, s1, lt_f (show (K.length : Int) ≤ (K.length : Int) by omega), rs_3_2, gcQ]
    refine drained_w c _ _ hQ _ sP (by omega) ?_
    intro h4 le4
    have n4 := le4.nx
    have l4 := le4.lo
    have gc4 := (le4.get _ (by omega)).trans gcQ
    rw [dP]
    simp(disch:=first|omega|(simp only[Wx];done)|(simp only[Wy];done)|(simp only[Wv];omega)|with_unfolding_all rfl)only[Wz,ptrTo,sliceTo, gc4]
    refine drained_w c _ _ h4 _ (sQ.le le4) (by omega) ?_
    intro h5 le5
    have n5 := le5.nx
    have l5 := le5.lo
    rw [dQ]
    simp(disch:=first|omega|(simp only[Wx];done)|(simp only[Wy];done)|(simp only[Wv];omega)|with_unfolding_all rfl)only[Wz,ptrTo,sliceTo]
    refine pooled_w K _ h5 _ (hKis h5 ((lehQ.trans le4).trans le5)) (by omega) ?_
    intro x6 c6 h6 le6
    have n6 := le6.nx
    have l6 := le6.lo
    simp(disch:=first|omega|(simp only[Wx];done)|(simp only[Wy];done)|(simp only[Wv];omega)|with_unfolding_all rfl)only[Wz,ptrTo,sliceTo, s2]
    refine pooled_w _ _ h6 _ (((sQ.le le4).le le5).le le6) (by omega) ?_
    intro x7 c7 h7 le7
    rw [hn]
    simp(disch:=first|omega|(simp only[Wx];done)|(simp only[Wy];done)|(simp only[Wv];omega)|with_unfolding_all rfl)only[Wz,ptrTo,sliceTo, s2]
    exact hk h7
end Go.Proofs

namespace Go.Proofs
open Go Go.Vai Go.Clashes Go.ChangeShapes Go.WideShapes
theorem laidOut : laidOutB Tryd.prog = true := by kernel_rfl
theorem open_struct {P : Program} {H : Type} {enc : TypeId × Value → H} {α : Type} {encA : α → List Value} {s : Nat} {W : World} {t : TypeId} {fs : Array Field} {v : Value} {d : DataW H} {p : List MemPlace} {base : Nat} (ht : P.underlying t = some (.struct fs)) (hc : P.cellsOf t = s)
    (hdec : ∀ (n : Nat) (cs : List Value) (d : DataW H × List MemPlace), cs.length = s → DataW.trod enc P W 0 (fun _ => true) true n t cs = some d → ∃ a : α, cs = encA a)
    (hw : Value.okWide P W .any base t v) (h : DataW.Trod enc P W 0 (fun _ => true) true t v d p) : ∃ a : α, v = .agg ⟨encA a⟩ := by
  obtain ⟨cs, rfl, hsz⟩ := okWide_struct ht hw
  obtain ⟨fuel, hf⟩ := h
  have hf : DataW.trod enc P W 0 (fun _ => true) true fuel t cs.toList = some (d, p) := hf
  obtain ⟨a, ha⟩ := hdec fuel cs.toList _ (by simp [hsz, hc]) hf
  refine ⟨a, ?_⟩
  rw [← ha]
def encC (c : Caps) : List Value := [.int .i64 c.S, .int .i64 c.H, .int .i64 c.R, .int .i64 c.P]
theorem decC {H : Type} {enc : TypeId × Value → H} {w : World} (n : Nat) (cs : List Value) (d : DataW H × List MemPlace) (hl : cs.length = 4) (h : DataW.trod enc Tryd.prog w 0 (fun _ => true) true n 24 cs = some d) : ∃ p : Caps, cs = encC p := by
  have k0 := dec_flat (P := Tryd.prog) 10 24 [.i .i64, .i .i64, .i .i64, .i .i64] (by kernel_rfl) _ _ _ h
  clear h
  obtain ⟨_, _, rfl, ⟨n0, rfl, _⟩, k1⟩ := k0.uncons
  obtain ⟨_, _, rfl, ⟨n1, rfl, _⟩, k2⟩ := k1.uncons
  obtain ⟨_, _, rfl, ⟨n2, rfl, _⟩, k3⟩ := k2.uncons
  obtain ⟨_, _, rfl, ⟨n3, rfl, _⟩, k4⟩ := k3.uncons
  cases k4.unnil
  exact ⟨⟨_, _, _, _⟩, rfl⟩
theorem dec5 {H : Type} {enc : TypeId × Value → H} {w : World} (n : Nat) (cs : List Value) (d : DataW H × List MemPlace) (hl : cs.length = 5) (h : DataW.trod enc Tryd.prog w 0 (fun _ => true) true n 38 cs = some d) : ∃ p : R5, cs = enc5 p := by
  have k0 := dec_flat (P := Tryd.prog) 10 38 [.i .i64, .i .i64, .i .i64, .i .i64, .i .i64] (by kernel_rfl) _ _ _ h
  clear h
  obtain ⟨_, _, rfl, ⟨n0, rfl, _⟩, k1⟩ := k0.uncons
  obtain ⟨_, _, rfl, ⟨n1, rfl, _⟩, k2⟩ := k1.uncons
  obtain ⟨_, _, rfl, ⟨n2, rfl, _⟩, k3⟩ := k2.uncons
  obtain ⟨_, _, rfl, ⟨n3, rfl, _⟩, k4⟩ := k3.uncons
  obtain ⟨_, _, rfl, ⟨n4, rfl, _⟩, k5⟩ := k4.uncons
  cases k5.unnil
  exact ⟨⟨_, _, _, _, _⟩, rfl⟩
structure HV where
  t : Int
  r : Int
  q : Value
  w : Int
abbrev HW (w : World) : Type := { a : HV // ∃ Q : List R5, ArgIs enc5 w a.q Q }
def encV (a : HV) : List Value := [.int .i64 a.t, .int .i64 a.r, a.q, .int .i64 a.w]
def encHW {w : World} (a : HW w) : List Value := encV a.1
theorem encHW_len {w : World} (a : HW w) : (encHW a).length = 4 := rfl
theorem decH {H : Type} {enc : TypeId × Value → H} {w : World} (n : Nat) (cs : List Value) (d : DataW H × List MemPlace) (hl : cs.length = 4) (h : DataW.trod enc Tryd.prog w 0 (fun _ => true) true n 33 cs = some d) : ∃ p : HW w, cs = encHW p := by
  have k0 := dec_flat (P := Tryd.prog) 10 33 [.i .i64, .i .i64, .sl 31, .i .i64] (by kernel_rfl) _ _ _ h
  clear h
  obtain ⟨_, _, rfl, ⟨n0, rfl, _⟩, k1⟩ := k0.uncons
  obtain ⟨_, _, rfl, ⟨n1, rfl, _⟩, k2⟩ := k1.uncons
  obtain ⟨q, _, rfl, ⟨fuel, x, hq⟩, k3⟩ := k2.uncons
  obtain ⟨_, _, rfl, ⟨n3, rfl, _⟩, k4⟩ := k3.uncons
  cases k4.unnil
  obtain ⟨Q, hQ⟩ := open_arg (encA := enc5) enc5_len (by decide) Tryd.underlying31 (by kernel_rfl) (fun n cs d => dec5 n cs d) hq
  exact ⟨⟨⟨n0, n1, q, n3⟩, Q, hQ⟩, rfl⟩
theorem argIs_slice {w : World} {v : Value} {Q : List R5} (h : ArgIs enc5 w v Q) : slV (absv v) = absv v := by
  rcases h with ⟨rfl, rfl | ⟨a, cap, rfl⟩⟩ | ⟨B, o, cap, C, e, fz, rfl, _⟩
  · rfl
  · rfl
  · cases Q <;> rfl
noncomputable def headOf {w : World} (a : HW w) : HE := ⟨a.1.t, a.1.r, 0, 0, absv a.1.q, a.1.w, a.2.choose⟩
theorem lawParts_row {w : World} (L : List (HW w)) (c : Caps) (which : Int) (v : Value) (g : ArgIs encHW w v L) (hlo : (memH w).lo ≤ (memH w).nx) :
    CallW Tryd.prog 3 [absA v, .agg ⟨encC c⟩, .int .i64 which] (memH w) IsTrue := by
  have hg : ∀ a ∈ L, ∀ u ∈ encHW a, goodV w u := by
    intro a _ u hu
    obtain ⟨Q, hQ⟩ := a.2
    unfold encHW encV at hu
    simp only [List.mem_cons, List.not_mem_nil, or_false] at hu
    rcases hu with rfl | rfl | rfl | rfl
    · exact .inl rfl
    · exact .inl rfl
    · exact hQ.good
    · exact .inl rfl
  obtain ⟨sl, ct⟩ := g.abs (s := 4) hg
  have hK : ∀ k ∈ L.map headOf, slV k.q = k.q ∧ Sl enc5 (memH w) k.q k.Q := by
    intro k hk
    obtain ⟨a, _, rfl⟩ := List.mem_map.1 hk
    have hQ := a.2.choose_spec
    exact ⟨argIs_slice hQ, (hQ.abs1 (s := 5) (fun _ => rfl)).1⟩
  have hflat : (L.map headOf).flatMap encH = L.flatMap fun a => (encHW a).map absv := by
    rw [List.flatMap_map]
    congr 1
    funext a
    have hQ := a.2.choose_spec
    show [Value.int .i64 a.1.t, .int .i64 a.1.r, slV (absv a.1.q), .int .i64 a.1.w] = _
    rw [argIs_slice hQ]
    rfl
  have hsl : Sl encH (memH w) (absv v) (L.map headOf) := by
    obtain ⟨x, cap, e1, e2⟩ := sl
    refine ⟨x, cap, by rw [List.length_map]; exact e1, fun hn => ?_⟩
    rw [hflat]
    exact e2 (fun h => hn (by rw [h]; rfl))
  rw [g.absA]
  exact lawParts_w c which (L.map headOf) (absv v) (memH w) hsl hK (by rw [List.length_map]; exact ct _) hlo IsTrue fun _ => rfl
end Go.Proofs
