/-
  PROVED HERE: a part of the proof, by a calculus of weakest conditions over an abstract heap (L7, L5, L6, L8, L9).
-/
import Derived.Test.YtijmemedhkgplaaGreatLA
import Derived.Test.YtijmemedhkgplaaGreatKF
import Derived.Test.YtijmemedhkgplaaGreatKG
set_option linter.unusedVariables false
set_option linter.unusedSimpArgs false
set_option maxRecDepth 100000
namespace Go.Proofs
open Go.Vai Go.Clashes
theorem rscanG_w (t r : Int) (q : Value) (w : Int) (Q : List R5) (h : Heap) (κ : Value → Heap → Prop) (hq : Sl enc5 h q Q) (hlen : Q.length ≤ 10000) (hlo : h.lo ≤ h.nx) (vq : VQ Q w)
    (hk : ∀ q' v' h', OwnR h h' q' (scanQ (cntW Q + 1) Q).1 → OwnI h h' v' (scanQ (cntW Q + 1) Q).2 → Le h h' → κ (.tuple ⟨[hdV t r q' w, v']⟩) h') :
    CallW Tryz.prog 24 [hdV t r q w] h κ := by
  have hq' := hq
  obtain ⟨qx, qc, rfl, _⟩ := hq'
  refine callW_of mixed ?_
  rw [rs_24]
  simp(disch:=first|omega|(simp only[Wx];done)|(simp only[Wy];done)|(simp only[Wv];omega)|with_unfolding_all rfl)only[Wz,ptrTo,sliceTo, hdV]
  obtain ⟨hA, e_hA⟩ : ∃ hA : Heap, hA = ⟨h.nx + 1 + 1, ((h.bl.upd (h.nx) (cellsO [.int .i64 t, .int .i64 r, .slice qx Q.length qc, .int .i64 w] 56 false)).upd (h.nx + 1) (cellsO [.int .i64 0, .int .i64 0, .slice none 0 0, .int .i64 0] 56 false)), h.lo⟩ := ⟨_, rfl⟩
  have le_hA : Le h hA := by subst e_hA; exact (((Le.refl h).new _).new _)
  have g1 : hA.bl.get (h.nx) = some (cellsO [.int .i64 t, .int .i64 r, .slice qx Q.length qc, .int .i64 w] 56 false) := by subst e_hA; exact (T.get_updne _ _ (by omega)).trans (T.get_upd_same _ _ _)
  have g3 : hA.bl.get (h.nx + 1) = some (cellsO [.int .i64 0, .int .i64 0, .slice none 0 0, .int .i64 0] 56 false) := by subst e_hA; exact T.get_upd_same _ _ _
  have n_hA : hA.nx = h.nx + 1 + 1 := by subst e_hA; rfl
  have l_hA : hA.lo = h.lo := by subst e_hA; rfl
  rw [← e_hA]
  clear e_hA
  refine rcopied_w t r _ w Q hA _ (hq.le le_hA) (by omega) (by omega) ?_
  intro q2 h2 ho2 hle2
  have n_hle2 := hle2.nx
  have l_hle2 := hle2.lo
  have g3 := (hle2.get _ (by omega)).trans g3
  obtain ⟨qx2, qc2, rfl, _⟩ := ho2.sl
  simp(disch:=first|omega|(simp only[Wx];done)|(simp only[Wy];done)|(simp only[Wv];omega)|with_unfolding_all rfl)only[Wz,ptrTo,sliceTo, hdV]
  obtain ⟨hB, e_hB⟩ : ∃ hB : Heap, hB = ⟨h2.nx + 1, (h2.bl.upd (h2.nx) (cellsO [.int .i64 t, .int .i64 r, .slice qx2 Q.length qc2, .int .i64 w] 56 false)), h2.lo⟩ := ⟨_, rfl⟩
  have le_hB : Le h2 hB := by subst e_hB; exact ((Le.refl h2).new _)
  have g7 : hB.bl.get (h2.nx) = some (cellsO [.int .i64 t, .int .i64 r, .slice qx2 Q.length qc2, .int .i64 w] 56 false) := by subst e_hB; exact T.get_upd_same _ _ _
  have n_hB : hB.nx = h2.nx + 1 := by subst e_hB; rfl
  have l_hB : hB.lo = h2.lo := by subst e_hB; rfl
  rw [← e_hB]
  clear e_hB
  have n_le_hB := le_hB.nx
  have l_le_hB := le_hB.lo
  have g3 := (le_hB.get _ (by omega)).trans g3
  have hoB := ho2.le le_hB
  have hallB : Le h hB := (le_hA.trans hle2).trans le_hB
  refine ⟨fun n l h1 => ∃ (K : List R5) (ids : List Int), VQ K w ∧ n = cntW K + 1 ∧ scanQ (cntW Q + 1) Q = ((scanQ (cntW K + 1) K).1, ids ++ (scanQ (cntW K + 1) K).2) ∧ K.length = Q.length ∧ ids.length + cntW K ≤ cntW Q ∧
      OwnI h h1 (slot l 49) ids ∧ (OwnR hA h1 (.slice qx2 K.length qc2) K) ∧ h1.bl.get (h.nx + 1) = some (cellsO [.int .i64 0, .int .i64 0, .slice none 0 0, .int .i64 0] 56 false) ∧ h1.bl.get h2.nx = some (cellsO [.int .i64 t, .int .i64 r, .slice qx2 Q.length qc2, .int .i64 w] 56 false) ∧ Le h h1 ∧ hB.nx ≤ h1.nx,
    ⟨_, Q, [], vq, rfl, by simp, rfl, by simp, .inl ⟨rfl, .inl rfl⟩, hoB, g3, g7, hallB, Nat.le_refl _⟩, ?_⟩
  rintro n l h3 ⟨K, ids, vk, rfl, hsc, hKl, hcn, hoI, hoK, g3, g7, hle3, n3⟩
  have l3 := hle3.lo
  obtain ⟨vi, ei⟩ : ∃ vi, slot l 49 = vi := ⟨_, rfl⟩
  rw [ei] at hoI
  rw [hKl] at hoK
  have hcK : cntW K ≤ K.length := List.length_filter_le _ _
  have hcQ : cntW Q ≤ Q.length := List.length_filter_le _ _
  simp(disch:=first|omega|(simp only[Wx];done)|(simp only[Wy];done)|(simp only[Wv];omega)|with_unfolding_all rfl)only[Wz,ptrTo,sliceTo, rs_24_2, g7]
  refine rup_w t r _ w K h3 _ hoK.sl (by omega) (by omega) ?_
  intro hx3 hlx
  have n_hlx := hlx.nx
  have l_hlx := hlx.lo
  have g3 := (hlx.get _ (by omega)).trans g3
  have g7 := (hlx.get _ (by omega)).trans g7
  have hoK3 := hoK.le hlx
  refine ⟨fun l' h' => slot l' 4 = .int .i64 (optI (firstQ K)) ∧ Le hx3 h', ?_, ?_⟩
  · cases hb : best K K.length with
    | some b =>
      simp(disch:=first|omega|(simp only[Wx];done)|(simp only[Wy];done)|(simp only[Wv];omega)|with_unfolding_all rfl)only[Wz,ptrTo,sliceTo, optI, lt_f (show (0 : Int) ≤ (b : Int) by omega)]
      refine ⟨?_, Le.refl _⟩
      rw [firstQ_of, hb]
    | none =>
      simp(disch:=first|omega|(simp only[Wx];done)|(simp only[Wy];done)|(simp only[Wv];omega)|with_unfolding_all rfl)only[Wz,ptrTo,sliceTo, optI, lt_t (show (-1 : Int) < 0 by decide), g7]
      refine rwaiting_w t r _ w K hx3 _ hoK3.sl (by omega) (by omega) ?_
      intro h4 le4
      refine ⟨?_, le4⟩
      rw [firstQ_of, hb]; rfl
  rintro l4 h4 ⟨s4, hle4⟩
  have n_hle4 := hle4.nx
  have l_hle4 := hle4.lo
  have g3 := (hle4.get _ (by omega)).trans g3
  have g7 := (hle4.get _ (by omega)).trans g7
  have hoK4 := hoK3.le hle4
  have hle34 := hlx.trans hle4
  have hoI4 := hoI.le hle34
  have hall4 := hle3.trans hle34
  have finish : ∀ h', h4.nx ≤ h'.nx → Le h h' → OwnI h h' vi ids → OwnR hA h' (.slice qx2 Q.length qc2) K → h'.bl.get (h.nx + 1) = some (cellsO [.int .i64 0, .int .i64 0, .slice none 0 0, .int .i64 0] 56 false) → stuckQ K → κ (.tuple ⟨[hdV t r (.slice qx2 Q.length qc2) w, vi]⟩) ⟨h'.nx, h'.bl.upd (h.nx + 1) (cellsO [.int .i64 t, .int .i64 r, .slice qx2 Q.length qc2, .int .i64 w] 56 false), h'.lo⟩ := by
    intro h' hn hl hi hr hg hst
    rw [scan_end hst] at hsc
    rw [hsc, List.append_nil] at hk
    exact hk _ _ _ (Own.put (Own.base hr (by omega)) (by rw [hg]; exact cells_op) _) (Own.put hi (by rw [hg]; exact cells_op) _) (hl.set (b := h.nx + 1) (by omega) _)
  cases hf : firstQ K with
  | none =>
    rw [hf] at s4
    simp(disch:=first|omega|(simp only[Wx];done)|(simp only[Wy];done)|(simp only[Wv];omega)|with_unfolding_all rfl)only[Wz,ptrTo,sliceTo, rs_24_1, s4, optI, lt_t (show (-1 : Int) < 0 by decide), g7, g3, ei]
    exact finish h4 (Nat.le_refl _) hall4 hoI4 hoK4 g3 (stuck_none hf)
  | some i =>
    rw [hf] at s4
    obtain ⟨p, hp, _⟩ := first_some hf
    obtain ⟨b, o, hb, hat, hld⟩ := ld5 hoK4.sl i hp
    simp(disch:=first|omega|(simp only[Wx];done)|(simp only[Wy];done)|(simp only[Wv];omega)|with_unfolding_all rfl)only[Wz,ptrTo,sliceTo, rs_24_1, s4, optI, lt_f (show (0 : Int) ≤ (i : Int) by omega), g7, hat, hld]
    refine rfits_w t r _ w p.w i K h4 _ hoK4.sl (by omega) (by omega) ?_
    intro h5 hle5
    have n_hle5 := hle5.nx
    have l_hle5 := hle5.lo
    have g3 := (hle5.get _ (by omega)).trans g3
    have g7 := (hle5.get _ (by omega)).trans g7
    have hoK5 := hoK4.le hle5
    have hoI5 := hoI4.le hle5
    have hall5 := hall4.trans hle5
    rw [fitsN_eq vk.pair hp]
    cases hfit : fitsQ K p with
    | false =>
      simp(disch:=first|omega|(simp only[Wx];done)|(simp only[Wy];done)|(simp only[Wv];omega)|with_unfolding_all rfl)only[Wz,ptrTo,sliceTo, g7, g3, ei]
      exact finish h5 (by omega) hall5 hoI5 hoK5 g3 (stuck_some hf hp hfit)
    | true =>
      rcases hoK5 with ⟨rfl, _⟩ | ⟨bo, e1, k1, k2, k3, k4⟩
      · simp at hp
      rw [hKl] at e1
      cases e1
      have hil : i < K.length := (List.getElem?_eq_some_iff.1 hp).1
      have hfl := flat_length (enc := enc5) enc5_len K
      have hfl2 : ((K.set i ⟨p.id, p.x, p.w, p.w, p.s⟩).flatMap enc5).length = K.length * 5 := by rw [flat_length enc5_len, List.length_set]
      have hov := over_field (p' := ⟨p.id, p.x, p.w, p.w, p.s⟩) (ws := [.int .i64 p.w]) (j := 2) enc5_len hp (by show 2 + 1 ≤ 5; omega) rfl
      have hp2 : (K.set i ⟨p.id, p.x, p.w, p.w, p.s⟩)[i]? = some ⟨p.id, p.x, p.w, p.w, p.s⟩ := by rw [List.getElem?_set, if_pos rfl, if_pos hil]
      have hov2 := over_field (p' := grantR p) (ws := [.int .i64 0]) (j := 4) enc5_len hp2 (by show 4 + 1 ≤ 5; omega) rfl
      rw [List.set_set] at hov2
      have hne1 : bo ≠ h2.nx := by rintro rfl; rw [g7] at k4; exact cells_op k4
      have hne2 : bo ≠ h.nx + 1 := by rintro rfl; rw [g3] at k4; exact cells_op k4
      have hsl : (K.set i (grantR p)).length = K.length := List.length_set
      rw [hKl] at hsl
      have hp3 : (K.set i (grantR p))[i]? = some (grantR p) := by rw [List.getElem?_set, if_pos rfl, if_pos hil]
      have r3 := flat_read (j := 3) enc5_len hp (by decide)
      have r0 := flat_read (j := 0) enc5_len hp3 (by decide)
      have r3 : (K.flatMap enc5)[i * 5 + 3]? = some (.int .i64 p.w) := r3
      have r0 : ((K.set i (grantR p)).flatMap enc5)[i * 5]? = some (.int .i64 p.id) := r0
      simp (maxSteps := 3000000) (disch:=first|omega|(simp only[Wx];done)|(simp only[Wy];done)|(simp only[Wv];omega)|with_unfolding_all rfl)only[Wz,ptrTo,sliceTo, rs_24_0, s4, optI, g7, indexAddr_eq, k4, hov, hov2, ei, r3, r0]
      obtain ⟨hC, eC⟩ : ∃ hC : Heap, hC = ⟨h5.nx, h5.bl.upd bo (cellsO ((K.set i (grantR p)).flatMap enc5) 47 true), h5.lo⟩ := ⟨_, rfl⟩
      have hleC : Le h hC := by subst eC; exact hall5.set (b := bo) (by omega) _
      have nC : hC.nx = h5.nx := by rw [eC]
      have lC : hC.lo = h5.lo := by rw [eC]
      have gC : hC.bl.get bo = some (cellsO ((K.set i (grantR p)).flatMap enc5) 47 true) := by subst eC; exact T.get_upd_same _ _ _
      have g3C : hC.bl.get (h.nx + 1) = some (cellsO [.int .i64 0, .int .i64 0, .slice none 0 0, .int .i64 0] 56 false) := by subst eC; exact (T.get_updne _ _ hne2).trans g3
      have g7C : hC.bl.get h2.nx = some (cellsO [.int .i64 t, .int .i64 r, .slice (some ⟨bo, 0, none⟩) Q.length openCap, .int .i64 w] 56 false) := by subst eC; exact (T.get_updne _ _ hne1).trans g7
      have hoC : OwnI h hC vi ids := by subst eC; exact Own.put hoI5 (by rw [k4]; exact cells_ty (by decide)) _
      have e2 : (⟨h5.nx + 1, (h5.bl.upd bo (cellsO ((K.set i (grantR p)).flatMap enc5) 47 true)).upd h5.nx (cellsO [.int .i64 p.id] 3 false), h5.lo⟩ : Heap) = ⟨hC.nx + 1, hC.bl.upd hC.nx (cellsO [.int .i64 p.id] 3 false), hC.lo⟩ := by rw [eC]
      rw [e2, show h5.nx = hC.nx from nC.symm]
      have hle1 := (Le.refl hC).new (cellsO [.int .i64 p.id] 3 false)
      have vk2 := vk.grant hf hp hfit
      have hcg := cntW_grant hp (first_waits vk hf hp)
      refine append_in (enc := encNum) (a := h) (L := ids) (M := [p.id]) encNum_len encNum_one (by decide) (by decide) (hoC.le hle1) (Sl.new (L := [p.id]) (e := 3) (op := false) (Nat.lt_succ_self _) (T.get_upd_same _ _ _) _) (hleC.new _) (by simp; omega) (by show hC.lo ≤ hC.nx + 1; omega) _ ?_
      intro v' h6 ho6 hle6 hn1 hn2 hl6 hsame
      have n6 : hC.nx + 1 ≤ h6.nx := hn2
      have keep : ∀ c o', c < hC.nx → hC.bl.get c = some o' → some o' ≠ some (cellsO (ids.flatMap encNum) 3 true) → h6.bl.get c = some o' := by
        intro c o' hc hg hne
        have e : (hC.bl.upd hC.nx (cellsO [.int .i64 p.id] 3 false)).get c = hC.bl.get c := T.get_updne _ _ (by omega)
        exact (hsame c (Nat.lt_succ_of_lt hc) (fun k => hne (by rw [← hg, ← e]; exact k))).trans (e.trans hg)
      have hl6' : h6.lo = hC.lo := hl6
      refine ⟨_, by omega, K.set i (grantR p), ids ++ [p.id], vk2, rfl, ?_, by simpa using hKl, by simp; omega, ho6, ?_, ?_, ?_, hle6, by omega⟩
      · rw [hsc, scan_unfold vk hf hp hfit]
        simp
      · refine .inr ⟨bo, rfl, by omega, by omega, by omega, keep bo _ (by omega) gC (cells_ty (by decide))⟩
      · exact keep _ _ (by omega) g3C (cells_ty (by decide))
      · exact keep _ _ (by omega) g7C (cells_ty (by decide))
end Go.Proofs

namespace Go.Proofs
open Go.Vai Go.Clashes
structure Like (M K : List HE) : Prop where
  len : K.length = M.length
  perm : (K.map nmOf).Perm (M.map nmOf)
  srt : (K.map nmOf).Pairwise ltN
  each : ∀ k ∈ K, ∃ e ∈ M, SameH k e
theorem SameH.nm {a b : HE} (s : SameH a b) : nmOf a = nmOf b := by unfold nmOf; rw [s.1, s.2.1]
theorem Like.nil : Like [] [] := ⟨rfl, List.Perm.refl _, List.Pairwise.nil, fun k hk => (nomatch hk)⟩
section
variable {M M' K : List HE} {clock : Nat}
theorem Like.of_mem (o : MapOk M clock) (l : Like M K) {e : HE} (he : e ∈ M) : ∃ k ∈ K, SameH k e := by
  obtain ⟨k, hk, hn⟩ := List.mem_map.1 (l.perm.mem_iff.2 (List.mem_map.2 ⟨e, he, rfl⟩))
  obtain ⟨e', he', s⟩ := l.each k hk
  have hn2 := s.nm.symm.trans hn
  have : e' = e := o.uniq he' he (congrArg Prod.fst hn2) (congrArg Prod.snd hn2)
  subst this
  exact ⟨k, hk, s⟩
theorem Like.at_eq (l : Like M K) {i j : Nat} {a b : HE} (hi : K[i]? = some a) (hj : K[j]? = some b) (hn : nmOf a = nmOf b) : i = j := by
  have G := pw_get.1 l.srt
  have ha : (K.map nmOf)[i]? = some (nmOf a) := by rw [List.getElem?_map, hi]; rfl
  have hb : (K.map nmOf)[j]? = some (nmOf b) := by rw [List.getElem?_map, hj]; rfl
  rcases Nat.lt_trichotomy i j with h | h | h
  · have := G i j _ _ h ha hb
    rw [hn] at this; unfold ltN at this; omega
  · exact h
  · have := G j i _ _ h hb ha
    rw [hn] at this; unfold ltN at this; omega
theorem names_split (o : MapOk M clock) {e : HE} (he : e ∈ M) : (M.map nmOf).Perm ((M.filter fun x => !isN e.t e.r x).map nmOf ++ [nmOf e]) := by
  have := (split_has o he).map nmOf
  rw [List.map_append] at this
  exact this
theorem Like.set (o : MapOk M clock) (l : Like M K) {t r w : Int} {Q : List R5} (s : Settled M M' t r w Q) (hQ : Q ≠ []) {i : Nat} {k k' : HE} (hi : K[i]? = some k) (ht : k.t = t) (hr : k.r = r) (hk : k'.t = t ∧ k'.r = r ∧ k'.w = w ∧ k'.Q = Q) : Like M' (K.set i k') := by
  obtain ⟨e, h1, h2, h3, h4, hp⟩ := s.put hQ
  obtain ⟨e0, he0, s0⟩ := l.each k (List.mem_of_getElem? hi)
  have t0 : e0.t = t := s0.1.symm.trans ht
  have r0 : e0.r = r := s0.2.1.symm.trans hr
  have hil := (List.getElem?_eq_some_iff.1 hi).1
  have hnm : nmOf k' = nmOf k := by unfold nmOf; rw [hk.1, hk.2.1, ht, hr]
  have hmap : (K.set i k').map nmOf = K.map nmOf := by
    rw [List.map_set, hnm]
    apply List.ext_getElem?
    intro j
    rw [List.getElem?_set]
    by_cases e : i = j
    · subst e; rw [if_pos rfl, if_pos (by simpa using hil), List.getElem?_map, hi]; rfl
    · rw [if_neg e]
  have hsp := names_split o he0
  rw [t0, r0] at hsp
  have hne : nmOf e = nmOf e0 := by unfold nmOf; rw [h1, h2, t0, r0]
  have hM' : (M'.map nmOf).Perm (M.map nmOf) := by
    have := hp.map nmOf
    rw [List.map_append, List.map_singleton, hne] at this
    exact this.trans hsp.symm
  refine ⟨?_, ?_, by rw [hmap]; exact l.srt, ?_⟩
  · rw [List.length_set, l.len]
    have := hM'.length_eq
    simpa using this.symm
  · rw [hmap]; exact l.perm.trans hM'.symm
  · intro k2 hk2
    obtain ⟨j, hj⟩ := List.getElem?_of_mem hk2
    rw [List.getElem?_set] at hj
    by_cases e1 : i = j
    · subst e1
      rw [if_pos rfl, if_pos hil] at hj; cases hj
      exact ⟨e, hp.mem_iff.2 (List.mem_append_right _ (.head _)), hk.1.trans h1.symm, hk.2.1.trans h2.symm, hk.2.2.1.trans h3.symm, hk.2.2.2.trans h4.symm⟩
    · rw [if_neg e1] at hj
      obtain ⟨e2, he2, s2⟩ := l.each k2 (List.mem_of_getElem? hj)
      refine ⟨e2, hp.mem_iff.2 (List.mem_append_left _ (List.mem_filter.2 ⟨he2, isN_f.2 ?_⟩)), s2⟩
      rintro ⟨h5, h6⟩
      exact e1 (l.at_eq hi hj (by unfold nmOf; rw [ht, hr, s2.1, s2.2.1, h5, h6]))
theorem Like.erase (o : MapOk M clock) (l : Like M K) {t r w : Int} (s : Settled M M' t r w []) {i : Nat} {k : HE} (hi : K[i]? = some k) (ht : k.t = t) (hr : k.r = r) : Like M' (K.take i ++ K.drop (i + 1)) := by
  have hM' := s.gone rfl
  obtain ⟨e0, he0, s0⟩ := l.each k (List.mem_of_getElem? hi)
  have t0 : e0.t = t := s0.1.symm.trans ht
  have r0 : e0.r = r := s0.2.1.symm.trans hr
  have hil := (List.getElem?_eq_some_iff.1 hi).1
  have eK : K = K.take i ++ k :: K.drop (i + 1) := by
    conv => lhs; rw [← List.take_append_drop i K]
    rw [List.drop_eq_getElem_cons hil]
    rw [List.getElem?_eq_getElem hil] at hi
    cases hi; rfl
  have hsp := names_split o he0
  rw [t0, r0, ← hM'] at hsp
  have hp2 : ((K.take i ++ K.drop (i + 1)).map nmOf ++ [nmOf e0]).Perm (M'.map nmOf ++ [nmOf e0]) := by
    refine List.Perm.trans ?_ (l.perm.trans hsp)
    conv => rhs; rw [eK]
    rw [← s0.nm, List.map_append, List.map_append, List.map_cons]
    exact ((List.perm_append_singleton _ _).trans List.perm_middle.symm)
  have hp3 := (List.perm_append_right_iff _).1 hp2
  refine ⟨by simpa using hp3.length_eq, hp3, ?_, ?_⟩
  · refine l.srt.sublist (List.Sublist.map _ ?_)
    conv => rhs; rw [eK]
    exact List.Sublist.append_left (List.sublist_cons_self _ _) _
  · intro k2 hk2
    have far : ∃ j, K[j]? = some k2 ∧ j ≠ i := by
      rcases List.mem_append.1 hk2 with h | h
      · obtain ⟨j, hj⟩ := List.getElem?_of_mem h
        rw [List.getElem?_take] at hj
        split at hj
        · exact ⟨j, hj, by omega⟩
        · cases hj
      · obtain ⟨j, hj⟩ := List.getElem?_of_mem h
        rw [List.getElem?_drop] at hj
        exact ⟨i + 1 + j, hj, by omega⟩
    obtain ⟨j, hj, hne⟩ := far
    obtain ⟨e2, he2, s2⟩ := l.each k2 (List.mem_of_getElem? hj)
    refine ⟨e2, ?_, s2⟩
    rw [hM']
    refine List.mem_filter.2 ⟨he2, isN_f.2 ?_⟩
    rintro ⟨h5, h6⟩
    exact hne (l.at_eq hj hi (by unfold nmOf; rw [ht, hr, s2.1, s2.2.1, h5, h6]))
theorem Like.ins (l : Like M K) {t r w : Int} {Q : List R5} (s : Settled M M' t r w Q) (hQ : Q ≠ []) (hno : ∀ e ∈ M, ¬ (t = e.t ∧ r = e.r)) {i : Nat} {k' : HE} (hk : k'.t = t ∧ k'.r = r ∧ k'.w = w ∧ k'.Q = Q)
    (h1 : ∀ (j : Nat) (a : HE), j < i → K[j]? = some a → ltN (nmOf a) (t, r)) (h2 : ∀ (j : Nat) (a : HE), i ≤ j → K[j]? = some a → ltN (t, r) (nmOf a)) : Like M' (K.take i ++ k' :: K.drop i) := by
  obtain ⟨e, g1, g2, g3, g4, hp⟩ := s.put hQ
  rw [split_not hno] at hp
  have hnk : nmOf k' = (t, r) := by unfold nmOf; rw [hk.1, hk.2.1]
  have hne : nmOf e = (t, r) := by unfold nmOf; rw [g1, g2]
  have hp2 : ((K.take i ++ k' :: K.drop i).map nmOf).Perm (M'.map nmOf) := by
    refine List.Perm.trans ?_ (hp.map nmOf).symm
    rw [List.map_append, List.map_append, List.map_cons, List.map_singleton, hnk, hne]
    refine List.perm_middle.trans ?_
    rw [← List.map_append, List.take_append_drop]
    exact ((List.perm_append_singleton _ _).symm.trans ((l.perm.append_right _)))
  refine ⟨by simpa using hp2.length_eq, hp2, ?_, ?_⟩
  · have hs := l.srt
    rw [← List.take_append_drop i K, List.map_append, List.pairwise_append] at hs
    rw [List.map_append, List.map_cons, List.pairwise_append, List.pairwise_cons, hnk]
    obtain ⟨s1, s2, s3⟩ := hs
    have up : ∀ b ∈ (K.drop i).map nmOf, ltN (t, r) b := by
      intro b hb
      obtain ⟨a, ha, rfl⟩ := List.mem_map.1 hb
      obtain ⟨j, hj⟩ := List.getElem?_of_mem ha
      rw [List.getElem?_drop] at hj
      exact h2 (i + j) a (by omega) hj
    refine ⟨s1, ⟨up, s2⟩, ?_⟩
    intro a ha b hb
    obtain ⟨a', ha', rfl⟩ := List.mem_map.1 ha
    obtain ⟨j, hj⟩ := List.getElem?_of_mem ha'
    rw [List.getElem?_take] at hj
    split at hj
    · rename_i hji
      have h3 := h1 j a' hji hj
      rcases List.mem_cons.1 hb with rfl | hb
      · exact h3
      · exact ltN_trans h3 (up b hb)
    · cases hj
  · intro k2 hk2
    rcases List.mem_append.1 hk2 with h | h
    · obtain ⟨e2, he2, s2⟩ := l.each k2 (List.mem_of_mem_take h)
      exact ⟨e2, hp.mem_iff.2 (List.mem_append_left _ he2), s2⟩
    · rcases List.mem_cons.1 h with rfl | h
      · exact ⟨e, hp.mem_iff.2 (List.mem_append_right _ (.head _)), hk.1.trans g1.symm, hk.2.1.trans g2.symm, hk.2.2.1.trans g3.symm, hk.2.2.2.trans g4.symm⟩
      · obtain ⟨e2, he2, s2⟩ := l.each k2 (List.mem_of_mem_drop h)
        exact ⟨e2, hp.mem_iff.2 (List.mem_append_left _ he2), s2⟩
end
end Go.Proofs

namespace Go.Vai
def BlkOf (v : Value) (c : Nat) : Prop := ∃ n, v = .slice (some ⟨c, 0, none⟩) n openCap
theorem Own.keep {α : Type} {enc : α → List Value} {a h h' : Heap} {e : TypeId} {v : Value} {L : List α} (ho : Own enc a e h v L) (hn : h.nx ≤ h'.nx) (hl : h'.lo = h.lo) (hg : ∀ b vs, b < h.nx → h.bl.get b = some (cellsO vs e true) → h'.bl.get b = h.bl.get b) : Own enc a e h' v L := by
  rcases ho with h0 | ⟨b, h1, h2, h3, h4, h5⟩
  · exact .inl h0
  · exact .inr ⟨b, h1, h2, Nat.lt_of_lt_of_le h3 hn, by rw [hl]; exact h4, (hg b _ h3 h5).trans h5⟩
theorem Own.blk {α : Type} {enc : α → List Value} {a h : Heap} {e : TypeId} {v : Value} {L : List α} (ho : Own enc a e h v L) {c : Nat} (hb : BlkOf v c) : a.nx ≤ c ∧ c < h.nx ∧ h.bl.get c = some (cellsO (L.flatMap enc) e true) := by
  obtain ⟨n, hn⟩ := hb
  rcases ho with ⟨_, rfl | ⟨b, o, rfl⟩⟩ | ⟨b, rfl, h1, h2, h3, h4⟩
  · cases hn
  · have : (0 : Nat) = openCap := by injection hn
    exact absurd this (by decide)
  · injection hn with e1; injection e1 with e1; injection e1 with e1
    subst e1
    exact ⟨h1, h2, h4⟩
end Go.Vai
namespace Go.Proofs
open Go.Vai Go.Clashes
structure FrK (S : Nat → Prop) (h h' : Heap) : Prop where
  nx : h.nx ≤ h'.nx
  lo : h'.lo = h.lo
  get : ∀ c, c < h.nx → ¬ S c → h'.bl.get c = h.bl.get c
theorem FrK.of_le {S : Nat → Prop} {h h' : Heap} (l : Le h h') : FrK S h h' := ⟨l.nx, l.lo, fun c hc _ => l.get c hc⟩
theorem FrK.trans {S S' : Nat → Prop} {h h' h'' : Heap} (a : FrK S h h') (b : FrK S' h' h'') (hs : ∀ c, c < h.nx → S' c → S c) : FrK S h h'' :=
  ⟨Nat.le_trans a.nx b.nx, b.lo.trans a.lo, fun c hc hn => (b.get c (Nat.lt_of_lt_of_le hc a.nx) (fun x => hn (hs c hc x))).trans (a.get c hc hn)⟩
theorem FrK.mono {S S' : Nat → Prop} {h h' : Heap} (a : FrK S h h') (hs : ∀ c, c < h.nx → S c → S' c) : FrK S' h h' := ⟨a.nx, a.lo, fun c hc hn => a.get c hc fun x => hn (hs c hc x)⟩
theorem FrK.le {S : Nat → Prop} {a h h' : Heap} (f : FrK S h h') (l : Le a h) (hs : ∀ c, S c → a.nx ≤ c) : Le a h' :=
  ⟨Nat.le_trans l.nx f.nx, f.lo.trans l.lo, fun c hc => (f.get c (Nat.lt_of_lt_of_le hc l.nx) (fun x => absurd (hs c x) (by omega))).trans (l.get c hc)⟩
theorem FrK.one {S : Nat → Prop} {h : Heap} {b : Nat} (hb : S b) (o : AObj) : FrK S h ⟨h.nx, h.bl.upd b o, h.lo⟩ :=
  ⟨Nat.le_refl _, rfl, fun c _ hn => T.get_updne _ _ (by rintro rfl; exact hn hb)⟩
structure RPool (h : Heap) (rp rl : Nat) (B : List Bool) : Prop where
  ltp : rp < h.nx
  lop : h.lo ≤ rp
  ltl : rl < h.nx
  lol : h.lo ≤ rl
  cellp : h.bl.get rp = some (cellsO [.slice (some ⟨rl, 0, none⟩) B.length B.length] 75 false)
  celll : h.bl.get rl = some (cellsO (B.map Value.bool) 4 false)
  small : B.length ≤ 128
structure RBk (a h : Heap) (rb rp most : Nat) (v : Value) (K : List HE) : Prop where
  lt : rb < h.nx
  lo : h.lo ≤ rb
  cell : h.bl.get rb = some (cellsO [.int .i64 (most : Int), .pointer (some ⟨rp, 0, none⟩), v] 77 false)
  own : OwnH a h v K
  emp : EmpV K v
  qv : ∀ k ∈ K, OwnR a h k.q k.Q
theorem RPool.keep {h h' : Heap} {rp rl : Nat} {B : List Bool} (p : RPool h rp rl B) (hn : h.nx ≤ h'.nx) (hl : h'.lo = h.lo) (g1 : h'.bl.get rp = h.bl.get rp) (g2 : h'.bl.get rl = h.bl.get rl) : RPool h' rp rl B :=
  ⟨Nat.lt_of_lt_of_le p.ltp hn, by rw [hl]; exact p.lop, Nat.lt_of_lt_of_le p.ltl hn, by rw [hl]; exact p.lol, g1.trans p.cellp, g2.trans p.celll, p.small⟩
theorem RPool.le {h h' : Heap} {rp rl : Nat} {B : List Bool} (p : RPool h rp rl B) (l : Le h h') : RPool h' rp rl B := p.keep l.nx l.lo (l.get _ p.ltp) (l.get _ p.ltl)
theorem RBk.keep {a h h' : Heap} {rb rp most : Nat} {v : Value} {K : List HE} (R : RBk a h rb rp most v K) (hn : h.nx ≤ h'.nx) (hl : h'.lo = h.lo)
    (hg : ∀ c vs ty op, c < h.nx → h.bl.get c = some (cellsO vs ty op) → (ty = 77 ∨ (ty = 56 ∧ op = true) ∨ ty = 47) → h'.bl.get c = h.bl.get c) : RBk a h' rb rp most v K :=
  ⟨Nat.lt_of_lt_of_le R.lt hn, by rw [hl]; exact R.lo, (hg _ _ _ _ R.lt R.cell (.inl rfl)).trans R.cell, R.own.keep hn hl fun b vs hb g => hg b vs _ _ hb g (.inr (.inl ⟨rfl, rfl⟩)), R.emp, fun k hk => (R.qv k hk).keep hn hl fun c vs hc g => hg c vs _ _ hc g (.inr (.inr rfl))⟩
theorem RBk.le {a h h' : Heap} {rb rp most : Nat} {v : Value} {K : List HE} (R : RBk a h rb rp most v K) (l : Le h h') : RBk a h' rb rp most v K := R.keep l.nx l.lo fun c _ _ _ hc _ _ => l.get c hc
theorem RBk.real {a h h' : Heap} {rb rp rl most : Nat} {v : Value} {K : List HE} (R : RBk a h rb rp most v K) {bb bm bp bl most2 : Nat} {M : List HE} {clock : Nat} {F : List Int} {B : List Bool} (s : BucketIs h bb bm bp bl most2 M clock F B) (f : FrQ bm bp bl h h') : RBk a h' rb rp most v K := by
  refine R.keep f.nx f.lo fun c vs ty op hc hg ht => ?_
  obtain ⟨fs, hgp, hpt⟩ := s.pool.fr.cell
  have gl := s.pool.cell
  have gm := s.cellm
  refine f.get c hc ?_ ?_ ?_ ?_
  · rintro rfl; rw [hg] at gm; exact cells_map gm.symm
  · rintro rfl; rw [hg] at hgp
    rcases ht with rfl | ⟨rfl, rfl⟩ | rfl <;> exact cells_ty (by decide) hgp
  · rintro rfl; rw [hg] at gl
    rcases ht with rfl | ⟨rfl, rfl⟩ | rfl <;> exact cells_ty (by decide) gl
  · intro ws; rw [hg]
    rcases ht with rfl | ⟨rfl, rfl⟩ | rfl <;> exact cells_ty (by decide)
theorem RPool.real {h h' : Heap} {rp rl : Nat} {B2 : List Bool} (p : RPool h rp rl B2) {bb bm bp bl most2 : Nat} {M : List HE} {clock : Nat} {F : List Int} {B : List Bool} (s : BucketIs h bb bm bp bl most2 M clock F B) (f : FrQ bm bp bl h h') (hne : rl ≠ bl) : RPool h' rp rl B2 := by
  obtain ⟨fs, hgp, hpt⟩ := s.pool.fr.cell
  have gl := s.pool.cell
  have gm := s.cellm
  have c1 := p.cellp
  have c2 := p.celll
  refine p.keep f.nx f.lo (f.get rp p.ltp ?_ ?_ ?_ ?_) (f.get rl p.ltl ?_ ?_ hne ?_)
  · rintro rfl; rw [c1] at gm; exact cells_map gm.symm
  · rintro rfl; rw [c1] at hgp; exact cells_ty (by decide) hgp
  · rintro rfl; rw [c1] at gl; exact cells_ty (by decide) gl
  · intro ws; rw [c1]; exact cells_op
  · rintro rfl; rw [c2] at gm; exact cells_map gm.symm
  · rintro rfl; rw [c2] at hgp; exact cells_ty (by decide) hgp
  · intro ws; rw [c2]; exact cells_op
theorem BucketIs.keepR {h h' : Heap} {bb bm bp bl most : Nat} {M : List HE} {clock : Nat} {F : List Int} {B : List Bool} (s : BucketIs h bb bm bp bl most M clock F B) (hn : h.nx ≤ h'.nx) (hl : h'.lo = h.lo)
    (hg : ∀ c, c < h.nx → (∀ vs op, h.bl.get c ≠ some (cellsO vs 77 op)) → (∀ vs, h.bl.get c ≠ some (cellsO vs 56 true)) → (∀ vs, c ≠ bl → h.bl.get c ≠ some (cellsO vs 4 false)) → h'.bl.get c = h.bl.get c) : BucketIs h' bb bm bp bl most M clock F B := by
  have kc : ∀ {c : Nat} {vs : List Value} {ty : TypeId} {op : Bool}, c < h.nx → h.bl.get c = some (cellsO vs ty op) → ty ≠ 77 → ty ≠ 4 → (ty = 56 → op = false) → h'.bl.get c = h.bl.get c := by
    intro c vs ty op hc g h1 h2 h3
    refine hg c hc (fun ws op' => ?_) (fun ws => ?_) fun ws _ => ?_
    · rw [g]; exact cells_ty h1
    · rw [g]
      by_cases e : ty = 56
      · rw [h3 e]; exact cells_op
      · exact cells_ty e
    · rw [g]; exact cells_ty h2
  obtain ⟨fs, hgp, hpt⟩ := s.pool.fr.cell
  have gl := s.pool.cell
  have gm := s.cellm
  refine ⟨Nat.lt_of_lt_of_le s.ltb hn, Nat.lt_of_lt_of_le s.ltm hn, by rw [hl]; exact s.lom, (kc s.ltb s.cellb (by decide) (by decide) (fun e => absurd e (by decide))).trans s.cellb, ?_, s.ok, fun e he => ?_, s.good, ⟨⟨Nat.lt_of_lt_of_le s.pool.fr.lt hn, by rw [hl]; exact s.pool.fr.lo, fs, (kc s.pool.fr.lt hgp (by decide) (by decide) (fun e => absurd e (by decide))).trans hgp, ?_⟩, Nat.lt_of_lt_of_le s.pool.lt hn, by rw [hl]; exact s.pool.lo, ?_, s.pool.ok, s.pool.small⟩, s.ne⟩
  · exact (hg bm s.ltm (fun ws op => by rw [gm]; exact cells_map) (fun ws => by rw [gm]; exact cells_map) fun ws _ => by rw [gm]; exact cells_map).trans gm
  · have H := s.heads e he
    exact ⟨Nat.lt_of_lt_of_le H.lt hn, (kc H.lt H.get (by decide) (by decide) (fun _ => rfl)).trans H.get, H.qv.frame hn fun c vs op hc g => kc hc g (by decide) (by decide) (fun e => absurd e (by decide))⟩
  · rcases hpt with e | ⟨b, G, e, k1, k2, k3, k4⟩
    · exact .inl e
    · exact .inr ⟨b, G, e, Nat.lt_of_lt_of_le k1 hn, by rw [hl]; exact k2, (kc k1 k3 (by decide) (by decide) (fun e => absurd e (by decide))).trans k3, k4⟩
  · exact (hg bl s.pool.lt (fun ws op => by rw [gl]; exact cells_ty (by decide)) (fun ws => by rw [gl]; exact cells_op) fun ws e => absurd rfl e).trans gl
structure Joint (a h : Heap) (bb bm bp bl most cap N : Nat) (M : List HE) (clock : Nat) (F : List Int) (B : List Bool) (rb rp rl : Nat) (v : Value) (K : List HE) : Prop where
  st : BSt h bb bm bp bl most cap N M clock F B
  bk : RBk a h rb rp most v K
  pl : RPool h rp rl B
  like : Like M K
  ne : rl ≠ bl
  le : Le a h
  hno : ∀ c vs t, a.bl.get c ≠ some (cellsO vs t true)
  am : a.nx ≤ bm
  ap : a.nx ≤ bp
  al : a.nx ≤ bl
  ar : a.nx ≤ rb
  ac : a.nx ≤ rl
def SK (rb rl : Nat) (v : Value) (c : Nat) : Prop := c = rb ∨ c = rl ∨ BlkOf v c
theorem FrQ.leA {a h h' : Heap} {bm bp bl : Nat} (f : FrQ bm bp bl h h') (l : Le a h) (hno : ∀ c vs t, a.bl.get c ≠ some (cellsO vs t true)) (hm : a.nx ≤ bm) (hp : a.nx ≤ bp) (hl : a.nx ≤ bl) : Le a h' :=
  ⟨Nat.le_trans l.nx f.nx, f.lo.trans l.lo, fun c hc => (f.get c (Nat.lt_of_lt_of_le hc l.nx) (by omega) (by omega) (by omega) fun vs => by rw [l.get c hc]; exact hno c vs _).trans (l.get c hc)⟩
theorem BucketIs.frK {a h h' : Heap} {bb bm bp bl most most2 : Nat} {M : List HE} {clock : Nat} {F : List Int} {B B2 : List Bool} (s : BucketIs h bb bm bp bl most M clock F B) {rb rp rl : Nat} {v : Value} {K : List HE} (R : RBk a h rb rp most2 v K) (p : RPool h rp rl B2) (hne : rl ≠ bl) (f : FrK (SK rb rl v) h h') : BucketIs h' bb bm bp bl most M clock F B := by
  refine s.keepR f.nx f.lo fun c hc h1 h2 h3 => f.get c hc ?_
  rintro (rfl | rfl | hb)
  · exact h1 _ _ R.cell
  · exact h3 _ hne p.celll
  · exact h2 _ (R.own.blk hb).2.2
section
variable {a h : Heap} {bb bm bp bl most cap N : Nat} {M : List HE} {clock : Nat} {F : List Int} {B : List Bool} {rb rp rl : Nat} {v : Value} {K : List HE}
theorem Joint.leH (J : Joint a h bb bm bp bl most cap N M clock F B rb rp rl v K) {h' : Heap} (l : Le h h') : Joint a h' bb bm bp bl most cap N M clock F B rb rp rl v K :=
  ⟨J.st.le l, J.bk.le l, J.pl.le l, J.like, J.ne, J.le.trans l, J.hno, J.am, J.ap, J.al, J.ar, J.ac⟩
theorem Joint.step (J : Joint a h bb bm bp bl most cap N M clock F B rb rp rl v K) {h1 h2 : Heap} {N' clock' : Nat} {M' : List HE} {F' : List Int} {B' : List Bool} {v' : Value} {K' : List HE} (s1 : BSt h1 bb bm bp bl most cap N' M' clock' F' B') (f1 : FrQ bm bp bl h h1)
    (R2 : RBk a h2 rb rp most v' K') (p2 : RPool h2 rp rl B') (f2 : FrK (SK rb rl v) h1 h2) (l : Like M' K') : Joint a h2 bb bm bp bl most cap N' M' clock' F' B' rb rp rl v' K' := by
  have R1 := J.bk.real J.st.is (rl := rl) f1
  have p1 := J.pl.real J.st.is f1 J.ne
  refine ⟨⟨s1.is.frK R1 p1 J.ne f2, s1.ids, s1.wb, s1.len, s1.cap⟩, R2, p2, l, J.ne, f2.le (f1.leA J.le J.hno J.am J.ap J.al) ?_, J.hno, J.am, J.ap, J.al, J.ar, J.ac⟩
  rintro c (rfl | rfl | hb)
  · exact J.ar
  · exact J.ac
  · exact (R1.own.blk hb).1
theorem Joint.up (J : Joint a h bb bm bp bl most cap N M clock F B rb rp rl v K) {N' : Nat} (hn : N ≤ N') : Joint a h bb bm bp bl most cap N' M clock F B rb rp rl v K :=
  ⟨⟨J.st.is, J.st.ids, fun e he => by have := J.st.wb e he; omega, J.st.len, J.st.cap⟩, J.bk, J.pl, J.like, J.ne, J.le, J.hno, J.am, J.ap, J.al, J.ar, J.ac⟩
theorem Joint.good (J : Joint a h bb bm bp bl most cap N M clock F B rb rp rl v K) : ∀ k ∈ K, HeadOk k := by
  intro k hk
  obtain ⟨e, he, s⟩ := J.like.each k hk
  have g := J.st.is.good e he
  obtain ⟨h1, h2, h3, h4⟩ := s
  exact ⟨by rw [h4]; exact g.ne, by rw [h3, h4]; exact g.vq, by rw [h4]; exact g.stuck, by rw [h4]; exact g.small⟩
end
end Go.Proofs

namespace Go.Proofs
open Go.Vai Go.Clashes
theorem least_eq {B : List Bool} {n n' : Nat} (h : B[n]? = some false) (hl : ∀ k, k < n → B[k]? = some true) (h' : B[n']? = some false) (hl' : ∀ k, k < n' → B[k]? = some true) : n = n' := by
  rcases Nat.lt_trichotomy n n' with e | e | e
  · rw [hl' n e] at h; cases h
  · exact e
  · rw [hl n' e] at h'; cases h'
theorem read_bool {B : List Bool} {n : Nat} {b : Bool} (h : B[n]? = some b) : (B.map Value.bool)[n]? = some (.bool b) := by rw [List.getElem?_map, h]; rfl
def lentTo (B : List Bool) (n : Nat) : List Int := ((List.range n).filter fun n => (B[n]?).getD false).map fun n : Nat => (n : Int)
theorem lentTo_succ (B : List Bool) (n : Nat) : lentTo B (n + 1) = if (B[n]?).getD false = true then lentTo B n ++ [(n : Int)] else lentTo B n := by
  unfold lentTo
  rw [List.range_succ, List.filter_append, List.map_append]
  by_cases h : (B[n]?).getD false = true
  · rw [if_pos h, List.filter_cons, if_pos h]; rfl
  · rw [if_neg h, List.filter_cons, if_neg h]; simp
theorem rlive_w {h : Heap} {rp rl : Nat} {B : List Bool} (p : RPool h rp rl B) (hlo : h.lo ≤ h.nx) (κ : Value → Heap → Prop) (hk : ∀ h', Le h h' → κ (.int .i64 ((lentL B).length : Int)) h') :
    CallW Tryz.prog 18 [.pointer (some ⟨rp, 0, none⟩)] h κ := by
  refine callW_of mixed ?_
  rw [rs_18]
  refine callW_of mixed ?_
  rw [rs_47]
  have hsm := p.small
  have hlm : (B.map Value.bool).length = B.length := by simp
  refine ⟨fun n l h1 => ∃ i : Nat, slot l 21 = .int .i64 (i : Int) ∧ i ≤ B.length ∧ n = B.length - i ∧ OwnI h h1 (slot l 18) (lentTo B i) ∧ (lentTo B i).length ≤ i ∧ Le h h1, ⟨_, 0, rfl, Nat.zero_le _, rfl, .inl ⟨rfl, .inl rfl⟩, Nat.le_refl _, Le.refl _⟩, ?_⟩
  rintro n l h1 ⟨i, s1, hi, rfl, ho, hln, le1⟩
  have n1 := le1.nx
  have l1 := le1.lo
  have p1 := p.le le1
  have c1 := p1.cellp
  have c2 := p1.celll
  obtain ⟨vi, ei⟩ : ∃ vi, slot l 18 = vi := ⟨_, rfl⟩
  rw [ei] at ho
  by_cases hlt : i < B.length
  · obtain ⟨b, hb⟩ : ∃ b, B[i]? = some b := ⟨_, List.getElem?_eq_getElem hlt⟩
    have hr := read_bool hb
    have hsucc := lentTo_succ B i
    rw [hb] at hsucc
    simp(disch:=first|omega|(simp only[Wx];done)|(simp only[Wy];done)|(simp only[Wv];omega)|with_unfolding_all rfl)only[Wz,ptrTo,sliceTo, rs_47_1, nil_at, c1, s1, lt_t (show (i : Int) < (B.length : Int) by omega)]
    cases b with
    | false =>
      rw [if_neg (by simp)] at hsucc
      refine ⟨fun l' h' => slot l' 11 = vi ∧ HQ h1 h', ?_, ?_⟩
      · simp(disch:=first|omega|(simp only[Wx];done)|(simp only[Wy];done)|(simp only[Wv];omega)|with_unfolding_all rfl)only[Wz,ptrTo,sliceTo, rs_47_0, nil_at, c1, s1, indexAddr_eq, c2, hr, Nat.mul_one, ei]
        exact ⟨trivial, rfl⟩
      · rintro l' h' ⟨k1, k2⟩
        cases (show h1 = h' from k2)
        simp(disch:=first|omega|(simp only[Wx];done)|(simp only[Wy];done)|(simp only[Wv];omega)|with_unfolding_all rfl)only[Wz,ptrTo,sliceTo, s1, k1]
        exact ⟨_, by omega, i + 1, rfl, by omega, rfl, by rw [hsucc]; exact ho, by rw [hsucc]; omega, le1⟩
    | true =>
      rw [if_pos (by simp)] at hsucc
      refine ⟨fun l' h' => OwnI h h' (slot l' 11) (lentTo B i ++ [(i : Int)]) ∧ Le h h' ∧ h1.nx ≤ h'.nx, ?_, ?_⟩
      · simp(disch:=first|omega|(simp only[Wx];done)|(simp only[Wy];done)|(simp only[Wv];omega)|with_unfolding_all rfl)only[Wz,ptrTo,sliceTo, rs_47_0, nil_at, c1, s1, indexAddr_eq, c2, hr, Nat.mul_one, ei]
        have hle1 := (Le.refl h1).new (cellsO [.int .i64 (i : Int)] 3 false)
        refine append_in (enc := encNum) (a := h) (L := lentTo B i) (M := [(i : Int)]) encNum_len encNum_one (by decide) (by decide) (ho.le hle1) (Sl.new (L := [(i : Int)]) (e := 3) (op := false) (Nat.lt_succ_self _) (T.get_upd_same _ _ _) _) (le1.new _) (by simp; omega) (by show h1.lo ≤ h1.nx + 1; omega) _ ?_
        intro v' h6 ho6 hle6 hn1 hn2 hl6 hsame
        have : h1.nx + 1 ≤ h6.nx := hn2
        exact ⟨ho6, hle6, by omega⟩
      · rintro l' h' ⟨k1, k2, k3⟩
        exact ⟨_, by omega, i + 1, rfl, by omega, rfl, by rw [hsucc]; exact k1, by rw [hsucc]; simp; omega, k2⟩
  · have hil : i = B.length := by omega
    subst hil
    simp(disch:=first|omega|(simp only[Wx];done)|(simp only[Wy];done)|(simp only[Wv];omega)|with_unfolding_all rfl)only[Wz,ptrTo,sliceTo, rs_47_1, nil_at, c1, s1, lt_f (show (B.length : Int) ≤ (B.length : Int) by omega), ei]
    obtain ⟨x, c, rfl, _⟩ := ho.sl
    simp(disch:=first|omega|(simp only[Wx];done)|(simp only[Wy];done)|(simp only[Wv];omega)|with_unfolding_all rfl)only[Wz,ptrTo,sliceTo]
    exact hk h1 le1
theorem rmost_w {h : Heap} {rp rl : Nat} {B : List Bool} (p : RPool h rp rl B) (κ : Value → Heap → Prop) (hk : κ (.int .i64 (B.length : Int)) h) :
    CallW Tryz.prog 80 [.pointer (some ⟨rp, 0, none⟩)] h κ := by
  refine callW_of mixed ?_
  rw [rs_80]
  have c1 := p.cellp
  simp(disch:=first|omega|(simp only[Wx];done)|(simp only[Wy];done)|(simp only[Wv];omega)|with_unfolding_all rfl)only[Wz,ptrTo,sliceTo, nil_at, c1]
  exact hk
theorem rhas_w {h : Heap} {rp rl : Nat} {B : List Bool} (p : RPool h rp rl B) (i : Int) (κ : Value → Heap → Prop) (hk : κ (.bool (decide (0 ≤ i) && (B[i.toNat]?).getD false)) h) :
    CallW Tryz.prog 107 [.pointer (some ⟨rp, 0, none⟩), .int .i64 i] h κ := by
  refine callW_of mixed ?_
  rw [rs_107]
  have c1 := p.cellp
  have c2 := p.celll
  have hlm : (B.map Value.bool).length = B.length := by simp
  by_cases h0 : 0 ≤ i
  · obtain ⟨n, rfl⟩ : ∃ n : Nat, i = (n : Int) := ⟨i.toNat, by omega⟩
    rw [dec_t h0, Bool.true_and, Int.toNat_natCast] at hk
    by_cases h1 : n < B.length
    · have hr := read_bool (List.getElem?_eq_getElem h1)
      rw [List.getElem?_eq_getElem h1] at hk
      simp(disch:=first|omega|(simp only[Wx];done)|(simp only[Wy];done)|(simp only[Wv];omega)|with_unfolding_all rfl)only[Wz,ptrTo,sliceTo, nil_at, c1, lt_f h0, lt_t (show (n : Int) < (B.length : Int) by omega), indexAddr_eq, c2, hr, Nat.mul_one]
      exact hk
    · rw [List.getElem?_eq_none (by omega)] at hk
      simp(disch:=first|omega|(simp only[Wx];done)|(simp only[Wy];done)|(simp only[Wv];omega)|with_unfolding_all rfl)only[Wz,ptrTo,sliceTo, nil_at, c1, lt_f h0, lt_f (show (B.length : Int) ≤ (n : Int) by omega)]
      exact hk
  · rw [dec_f h0, Bool.false_and] at hk
    simp(disch:=first|omega|(simp only[Wx];done)|(simp only[Wy];done)|(simp only[Wv];omega)|with_unfolding_all rfl)only[Wz,ptrTo,sliceTo, nil_at, lt_t (show i < 0 by omega)]
    exact hk
theorem RPool.put {h : Heap} {rp rl : Nat} {B : List Bool} (p : RPool h rp rl B) (hne : rp ≠ rl) (n : Nat) (b : Bool) : RPool ⟨h.nx, h.bl.upd rl (cellsO ((B.set n b).map Value.bool) 4 false), h.lo⟩ rp rl (B.set n b) :=
  ⟨p.ltp, p.lop, p.ltl, p.lol, by rw [List.length_set]; exact (T.get_updne _ _ (fun e => hne e.symm)).trans p.cellp, T.get_upd_same _ _ _, by rw [List.length_set]; exact p.small⟩
theorem RPool.ne {h : Heap} {rp rl : Nat} {B : List Bool} (p : RPool h rp rl B) : rp ≠ rl := by
  rintro rfl
  exact cells_ty (by decide) (p.cellp.symm.trans p.celll)
theorem rgive_w {h : Heap} {rp rl : Nat} {B : List Bool} (p : RPool h rp rl B) (n : Nat) (hb : B[n]? = some true) (κ : Value → Heap → Prop)
    (hk : RPool ⟨h.nx, h.bl.upd rl (cellsO ((B.set n false).map Value.bool) 4 false), h.lo⟩ rp rl (B.set n false) → κ (.int .i64 0) ⟨h.nx, h.bl.upd rl (cellsO ((B.set n false).map Value.bool) 4 false), h.lo⟩) :
    CallW Tryz.prog 74 [.pointer (some ⟨rp, 0, none⟩), .int .i64 (n : Int)] h κ := by
  refine callW_of mixed ?_
  rw [rs_74]
  have c1 := p.cellp
  have c2 := p.celll
  have hlol := p.lol
  have hn : n < B.length := (List.getElem?_eq_some_iff.1 hb).1
  have hlm : (B.map Value.bool).length = B.length := by simp
  refine rhas_w p n _ ?_
  have eh : (decide ((0 : Int) ≤ (n : Int)) && (B[((n : Int)).toNat]?).getD false) = true := by
    rw [dec_t (by omega), Int.toNat_natCast, hb]; rfl
  rw [eh]
  simp(disch:=first|omega|(simp only[Wx];done)|(simp only[Wy];done)|(simp only[Wv];omega)|with_unfolding_all rfl)only[Wz,ptrTo,sliceTo, nil_at, c1, indexAddr_eq, c2, Nat.mul_one, over_bool hn]
  exact hk (p.put p.ne n false)
theorem rtake_w {h : Heap} {rp rl : Nat} {B : List Bool} (p : RPool h rp rl B) (κ : Value → Heap → Prop)
    (hk8 : (∀ k, k < B.length → B[k]? = some true) → κ (.tuple ⟨[.int .i64 0, .int .i64 8]⟩) h)
    (hk0 : ∀ n : Nat, B[n]? = some false → (∀ k, k < n → B[k]? = some true) → RPool ⟨h.nx, h.bl.upd rl (cellsO ((B.set n true).map Value.bool) 4 false), h.lo⟩ rp rl (B.set n true) → κ (.tuple ⟨[.int .i64 (n : Int), .int .i64 0]⟩) ⟨h.nx, h.bl.upd rl (cellsO ((B.set n true).map Value.bool) 4 false), h.lo⟩) :
    CallW Tryz.prog 81 [.pointer (some ⟨rp, 0, none⟩)] h κ := by
  refine callW_of mixed ?_
  rw [rs_81]
  have c1 := p.cellp
  have c2 := p.celll
  have hlol := p.lol
  have hsm := p.small
  have hlm : (B.map Value.bool).length = B.length := by simp
  refine ⟨fun n l h1 => ∃ i : Nat, slot l 26 = .int .i64 (i : Int) ∧ i ≤ B.length ∧ n = B.length - i ∧ (∀ k, k < i → B[k]? = some true) ∧ HQ h h1, ⟨_, 0, rfl, Nat.zero_le _, rfl, fun k hk => (by omega), rfl⟩, ?_⟩
  rintro n l h1 ⟨i, s1, hi, rfl, hall, hq⟩
  cases (show h = h1 from hq)
  by_cases hlt : i < B.length
  · obtain ⟨b, hb⟩ : ∃ b, B[i]? = some b := ⟨_, List.getElem?_eq_getElem hlt⟩
    have hr := read_bool hb
    cases b with
    | false =>
      simp(disch:=first|omega|(simp only[Wx];done)|(simp only[Wy];done)|(simp only[Wv];omega)|with_unfolding_all rfl)only[Wz,ptrTo,sliceTo, rs_81_1, nil_at, c1, s1, lt_t (show (i : Int) < (B.length : Int) by omega), rs_81_0, indexAddr_eq, c2, hr, Nat.mul_one, over_bool hlt]
      exact hk0 i hb hall (p.put p.ne i true)
    | true =>
      simp(disch:=first|omega|(simp only[Wx];done)|(simp only[Wy];done)|(simp only[Wv];omega)|with_unfolding_all rfl)only[Wz,ptrTo,sliceTo, rs_81_1, nil_at, c1, s1, lt_t (show (i : Int) < (B.length : Int) by omega), rs_81_0, indexAddr_eq, c2, hr, Nat.mul_one]
      refine ⟨_, by omega, i + 1, rfl, by omega, rfl, fun k hk => ?_, rfl⟩
      by_cases e : k = i
      · subst e; exact hb
      · exact hall k (by omega)
  · have hil : i = B.length := by omega
    subst hil
    simp(disch:=first|omega|(simp only[Wx];done)|(simp only[Wy];done)|(simp only[Wv];omega)|with_unfolding_all rfl)only[Wz,ptrTo,sliceTo, rs_81_1, nil_at, c1, s1, lt_f (show (B.length : Int) ≤ (B.length : Int) by omega)]
    exact hk8 hall
end Go.Proofs

namespace Go.Proofs
open Go.Vai Go.Clashes
theorem rcmp_w (t r t' r' : Int) (h : Heap) (κ : Value → Heap → Prop) (h1 : ltN (t, r) (t', r') → ∀ h', Le h h' → κ (.int .i64 (-1)) h') (h2 : t = t' → r = r' → ∀ h', Le h h' → κ (.int .i64 0) h') (h3 : ltN (t', r') (t, r) → ∀ h', Le h h' → κ (.int .i64 1) h') :
    CallW Tryz.prog 88 [nmV t r, nmV t' r'] h κ := by
  refine callW_of mixed ?_
  rw [rs_88]
  have hl : Le h _ := ((Le.refl h).new (cellsO [.int .i64 t, .int .i64 r] 38 false)).new (cellsO [.int .i64 t', .int .i64 r'] 38 false)
  by_cases c1 : t < t'
  · simp(disch:=first|omega|(simp only[Wx];done)|(simp only[Wy];done)|(simp only[Wv];omega)|with_unfolding_all rfl)only[Wz,ptrTo,sliceTo, nmV, lt_t c1]
    exact h1 (.inl c1) _ hl
  · by_cases c2 : t = t'
    · subst c2
      by_cases c3 : r < r'
      · simp(disch:=first|omega|(simp only[Wx];done)|(simp only[Wy];done)|(simp only[Wv];omega)|with_unfolding_all rfl)only[Wz,ptrTo,sliceTo, nmV, lt_f (Int.le_refl t), dec_t (rfl : t = t), lt_t c3]
        exact h1 (.inr ⟨rfl, c3⟩) _ hl
      · by_cases c4 : r = r'
        · subst c4
          simp(disch:=first|omega|(simp only[Wx];done)|(simp only[Wy];done)|(simp only[Wv];omega)|with_unfolding_all rfl)only[Wz,ptrTo,sliceTo, nmV, lt_f (Int.le_refl t), dec_t (rfl : t = t), lt_f (Int.le_refl r), bin_eqNs]
          exact h2 rfl rfl _ hl
        · simp(disch:=first|omega|(simp only[Wx];done)|(simp only[Wy];done)|(simp only[Wv];omega)|with_unfolding_all rfl)only[Wz,ptrTo,sliceTo, nmV, lt_f (Int.le_refl t), dec_t (rfl : t = t), lt_f (show r' ≤ r by omega), bin_eqN, dec_f (show ¬ (t = t ∧ r = r') from fun e => c4 e.2), dec_f (show ¬ (True ∧ r = r') from fun e => c4 e.2)]
          exact h3 (.inr ⟨rfl, by show r' < r; omega⟩) _ hl
    · simp(disch:=first|omega|(simp only[Wx];done)|(simp only[Wy];done)|(simp only[Wv];omega)|with_unfolding_all rfl)only[Wz,ptrTo,sliceTo, nmV, lt_f (show t' ≤ t by omega), dec_f c2, bin_eqN, dec_f (show ¬ (t = t' ∧ r = r') from fun e => c2 e.1)]
      exact h3 (.inl (by show t' < t; omega)) _ hl
section
variable {a h : Heap} {rb rp most : Nat} {v : Value} {K : List HE}
theorem RBk.ld (R : RBk a h rb rp most v K) (i : Nat) {k : HE} (hk : K[i]? = some k) :
    ∃ b o, b < h.nx ∧ (∀ (β : Type) (fl : β) (h' : Heap) (κ : Value → Heap → β), indexAddrS fl 4 v (.int .i64 (i : Int)) h' κ = κ (.pointer (some ⟨b, o, none⟩)) h') ∧
      ∀ h', Le h h' → ((∀ (β : Type) (fl : β) (κ : List Value → β), ldA fl (h'.bl.get b) o 2 κ = κ [.int .i64 k.t, .int .i64 k.r]) ∧
      (∀ (β : Type) (fl : β) (κ : List Value → β), ldA fl (h'.bl.get b) o 4 κ = κ [.int .i64 k.t, .int .i64 k.r, k.q, .int .i64 k.w]) ∧
      (∀ (β : Type) (fl : β) (κ : Value → β), ldO fl (h'.bl.get b) o κ = κ (.int .i64 k.t)) ∧
      (∀ (β : Type) (fl : β) (κ : Value → β), ldO fl (h'.bl.get b) (o + 1) κ = κ (.int .i64 k.r)) ∧
      (∀ (β : Type) (fl : β) (κ : Value → β), ldO fl (h'.bl.get b) (o + 2) κ = κ k.q) ∧
      (∀ (β : Type) (fl : β) (κ : Value → β), ldO fl (h'.bl.get b) (o + 3) κ = κ (.int .i64 k.w))) :=
  ldHs R.own.sl i hk (slV_sl (R.qv k (List.mem_of_getElem? hk)).sl)
theorem rplace_w (R : RBk a h rb rp most v K) (hlo : h.lo ≤ h.nx) (hl : K.length ≤ 1000) (t r : Int) (κ : Value → Heap → Prop)
    (hk0 : ∀ (i : Nat) h', i ≤ K.length → (∀ (j : Nat) (k : HE), j < i → K[j]? = some k → ltN (nmOf k) (t, r)) → (∀ k, K[i]? = some k → ltN (t, r) (nmOf k)) → Le h h' → κ (.tuple ⟨[.int .i64 (i : Int), .bool false]⟩) h')
    (hk1 : ∀ (i : Nat) (k : HE) h', K[i]? = some k → k.t = t → k.r = r → Le h h' → κ (.tuple ⟨[.int .i64 (i : Int), .bool true]⟩) h') :
    CallW Tryz.prog 54 [.pointer (some ⟨rb, 0, none⟩), nmV t r] h κ := by
  refine callW_of mixed ?_
  rw [rs_54]
  simp(disch:=first|omega|(simp only[Wx];done)|(simp only[Wy];done)|(simp only[Wv];omega)|with_unfolding_all rfl)only[Wz,ptrTo,sliceTo, nmV]
  obtain ⟨hA, e_hA⟩ : ∃ hA : Heap, hA = ⟨h.nx + 1, (h.bl.upd (h.nx) (cellsO [.int .i64 t, .int .i64 r] 38 false)), h.lo⟩ := ⟨_, rfl⟩
  have le_hA : Le h hA := by subst e_hA; exact ((Le.refl h).new _)
  have g1 : hA.bl.get (h.nx) = some (cellsO [.int .i64 t, .int .i64 r] 38 false) := by subst e_hA; exact T.get_upd_same _ _ _
  have n_hA : hA.nx = h.nx + 1 := by subst e_hA; rfl
  have l_hA : hA.lo = h.lo := by subst e_hA; rfl
  rw [← e_hA]
  clear e_hA
  refine ⟨fun n l h1 => ∃ i : Nat, slot l 27 = .int .i64 (i : Int) ∧ i ≤ K.length ∧ n = K.length - i ∧ (∀ (j : Nat) (k : HE), j < i → K[j]? = some k → ltN (nmOf k) (t, r)) ∧ Le hA h1, ⟨_, 0, rfl, Nat.zero_le _, rfl, fun j k hj => (by omega), Le.refl _⟩, ?_⟩
  rintro n l h1 ⟨i, s1, hi, rfl, hall, le1⟩
  have n_le1 := le1.nx
  have l_le1 := le1.lo
  have g1 := (le1.get _ (by omega)).trans g1
  have le01 := le_hA.trans le1
  have R1 := R.le le01
  have c1 := R1.cell
  have hlen : ∀ (β : Type) (fl : β) (h' : Heap) (κ : Value → Heap → β), lenSli fl v h' κ = κ (.int .i64 (K.length : Int)) h' := fun β fl h' κ => R1.own.sl.len κ h'
  by_cases hlt : i < K.length
  · obtain ⟨k, hk⟩ : ∃ k, K[i]? = some k := ⟨_, List.getElem?_eq_getElem hlt⟩
    obtain ⟨b, o, hb, hat, hld⟩ := R1.ld i hk
    have L1 := hld h1 (Le.refl _)
    simp(disch:=first|omega|(simp only[Wx];done)|(simp only[Wy];done)|(simp only[Wv];omega)|with_unfolding_all rfl)only[Wz,ptrTo,sliceTo, rs_54_1, nil_at, c1, hlen, s1, lt_t (show (i : Int) < (K.length : Int) by omega), rs_54_0, hat, L1, g1]
    refine rcmp_w k.t k.r t r h1 _ ?_ ?_ ?_
    · intro hlt2 h2 le2
      simp(disch:=first|omega|(simp only[Wx];done)|(simp only[Wy];done)|(simp only[Wv];omega)|with_unfolding_all rfl)only[Wz,ptrTo,sliceTo, s1]
      refine ⟨_, by omega, i + 1, rfl, by omega, rfl, fun j k' hj hk' => ?_, le1.trans le2⟩
      by_cases e : j = i
      · subst e; rw [hk] at hk'; cases hk'; exact hlt2
      · exact hall j k' (by omega) hk'
    · intro e1 e2 h2 le2
      simp(disch:=first|omega|(simp only[Wx];done)|(simp only[Wy];done)|(simp only[Wv];omega)|with_unfolding_all rfl)only[Wz,ptrTo,sliceTo, s1]
      exact hk1 i k h2 hk e1 e2 (le01.trans le2)
    · intro hgt h2 le2
      simp(disch:=first|omega|(simp only[Wx];done)|(simp only[Wy];done)|(simp only[Wv];omega)|with_unfolding_all rfl)only[Wz,ptrTo,sliceTo, s1]
      refine hk0 i h2 hi hall (fun k' hk' => ?_) (le01.trans le2)
      rw [hk] at hk'; cases hk'; exact hgt
  · have hil : i = K.length := by omega
    subst hil
    simp(disch:=first|omega|(simp only[Wx];done)|(simp only[Wy];done)|(simp only[Wv];omega)|with_unfolding_all rfl)only[Wz,ptrTo,sliceTo, rs_54_1, nil_at, c1, hlen, s1, lt_f (show (K.length : Int) ≤ (K.length : Int) by omega)]
    refine hk0 K.length h1 (Nat.le_refl _) hall (fun k' hk' => ?_) le01
    rw [List.getElem?_eq_none (Nat.le_refl _)] at hk'; cases hk'
theorem rof_w (R : RBk a h rb rp most v K) (hlo : h.lo ≤ h.nx) (hl : K.length ≤ 1000) (gd : ∀ k ∈ K, HeadOk k) (d : Int) (κ : Value → Heap → Prop)
    (hk0 : ∀ h', (∀ k ∈ K, findQ k.Q d = none) → Le h h' → κ (.int .i64 (-1)) h')
    (hk1 : ∀ (i : Nat) (k : HE) (p : R5) h', K[i]? = some k → findQ k.Q d = some p → Le h h' → κ (.int .i64 (i : Int)) h') :
    CallW Tryz.prog 50 [.pointer (some ⟨rb, 0, none⟩), .int .i64 d] h κ := by
  refine callW_of mixed ?_
  rw [rs_50]
  refine ⟨fun n l h1 => ∃ i : Nat, slot l 26 = .int .i64 (i : Int) ∧ i ≤ K.length ∧ n = K.length - i ∧ (∀ (j : Nat) (k : HE), j < i → K[j]? = some k → findQ k.Q d = none) ∧ Le h h1, ⟨_, 0, rfl, Nat.zero_le _, rfl, fun j k hj => (by omega), Le.refl _⟩, ?_⟩
  rintro n l h1 ⟨i, s1, hi, rfl, hall, le1⟩
  have n1 := le1.nx
  have l1 := le1.lo
  have R1 := R.le le1
  have c1 := R1.cell
  have hlen : ∀ (β : Type) (fl : β) (h' : Heap) (κ : Value → Heap → β), lenSli fl v h' κ = κ (.int .i64 (K.length : Int)) h' := fun β fl h' κ => R1.own.sl.len κ h'
  by_cases hlt : i < K.length
  · obtain ⟨k, hk⟩ : ∃ k, K[i]? = some k := ⟨_, List.getElem?_eq_getElem hlt⟩
    obtain ⟨b, o, hb, hat, hld⟩ := R1.ld i hk
    have L1 := hld h1 (Le.refl _)
    have hkK := List.mem_of_getElem? hk
    have hsm := (gd k hkK).small
    simp(disch:=first|omega|(simp only[Wx];done)|(simp only[Wy];done)|(simp only[Wv];omega)|with_unfolding_all rfl)only[Wz,ptrTo,sliceTo, rs_50_1, nil_at, c1, hlen, s1, lt_t (show (i : Int) < (K.length : Int) by omega), rs_50_0, hat, L1]
    refine rfind9_w k.t k.r k.q k.w d k.Q h1 _ (R1.qv k hkK).sl (by omega) (by omega) ?_
    intro h2 le2
    have n2 := le2.nx
    have l2 := le2.lo
    cases hf : findQ k.Q d with
    | some p =>
      simp(disch:=first|omega|(simp only[Wx];done)|(simp only[Wy];done)|(simp only[Wv];omega)|with_unfolding_all rfl)only[Wz,ptrTo,sliceTo, s1, enc5]
      exact hk1 i k p _ hk hf ((le1.trans le2).new _)
    | none =>
      simp(disch:=first|omega|(simp only[Wx];done)|(simp only[Wy];done)|(simp only[Wv];omega)|with_unfolding_all rfl)only[Wz,ptrTo,sliceTo, s1, enc5]
      refine ⟨_, by omega, i + 1, rfl, by omega, rfl, fun j k' hj hk' => ?_, (le1.trans le2).new _⟩
      by_cases e : j = i
      · subst e; rw [hk] at hk'; cases hk'; exact hf
      · exact hall j k' (by omega) hk'
  · have hil : i = K.length := by omega
    subst hil
    simp(disch:=first|omega|(simp only[Wx];done)|(simp only[Wy];done)|(simp only[Wv];omega)|with_unfolding_all rfl)only[Wz,ptrTo,sliceTo, rs_50_1, nil_at, c1, hlen, s1, lt_f (show (K.length : Int) ≤ (K.length : Int) by omega)]
    refine hk0 h1 (fun k hk => ?_) le1
    obtain ⟨j, hj⟩ := List.getElem?_of_mem hk
    exact hall j k (List.getElem?_eq_some_iff.1 hj).1 hj
theorem rlenB_w (R : RBk a h rb rp most v K) (κ : Value → Heap → Prop) (hk : κ (.int .i64 (K.length : Int)) h) : CallW Tryz.prog 16 [.pointer (some ⟨rb, 0, none⟩)] h κ := by
  refine callW_of mixed ?_
  rw [rs_16]
  have c1 := R.cell
  have hlen : ∀ (β : Type) (fl : β) (h' : Heap) (κ : Value → Heap → β), lenSli fl v h' κ = κ (.int .i64 (K.length : Int)) h' := fun β fl h' κ => R.own.sl.len κ h'
  simp(disch:=first|omega|(simp only[Wx];done)|(simp only[Wy];done)|(simp only[Wv];omega)|with_unfolding_all rfl)only[Wz,ptrTo,sliceTo, nil_at, c1, hlen]
  exact hk
theorem rfindB_w (R : RBk a h rb rp most v K) (hlo : h.lo ≤ h.nx) (hl : K.length ≤ 1000) (gd : ∀ k ∈ K, HeadOk k) (srt : (K.map nmOf).Pairwise ltN) (t r x : Int) (κ : Value → Heap → Prop)
    (hk0 : ∀ h', (∀ k ∈ K, t = k.t → r = k.r → ∀ p ∈ k.Q, p.x ≠ x) → Le h h' → κ (.tuple ⟨[.int .i64 0, .bool false]⟩) h')
    (hk1 : ∀ h' k p, k ∈ K → t = k.t → r = k.r → p ∈ k.Q → p.x = x → Le h h' → κ (.tuple ⟨[.int .i64 p.id, .bool true]⟩) h') :
    CallW Tryz.prog 22 [.pointer (some ⟨rb, 0, none⟩), nmV t r, .int .i64 x] h κ := by
  refine callW_of mixed ?_
  rw [rs_22]
  simp(disch:=first|omega|(simp only[Wx];done)|(simp only[Wy];done)|(simp only[Wv];omega)|with_unfolding_all rfl)only[Wz,ptrTo,sliceTo, nmV]
  obtain ⟨hA, e_hA⟩ : ∃ hA : Heap, hA = ⟨h.nx + 1, (h.bl.upd (h.nx) (cellsO [.int .i64 t, .int .i64 r] 38 false)), h.lo⟩ := ⟨_, rfl⟩
  have le_hA : Le h hA := by subst e_hA; exact ((Le.refl h).new _)
  have g1 : hA.bl.get (h.nx) = some (cellsO [.int .i64 t, .int .i64 r] 38 false) := by subst e_hA; exact T.get_upd_same _ _ _
  have n_hA : hA.nx = h.nx + 1 := by subst e_hA; rfl
  have l_hA : hA.lo = h.lo := by subst e_hA; rfl
  rw [← e_hA]
  clear e_hA
  have far : ∀ (i : Nat) (k0 k : HE), K[i]? = some k0 → k ∈ K → t = k0.t → r = k0.r → t = k.t → r = k.r → k = k0 := by
    intro i k0 k hk0' hk e1 e2 e3 e4
    obtain ⟨j, hj⟩ := List.getElem?_of_mem hk
    have G := pw_get.1 srt
    have ha : (K.map nmOf)[i]? = some (nmOf k0) := by rw [List.getElem?_map, hk0']; rfl
    have hb : (K.map nmOf)[j]? = some (nmOf k) := by rw [List.getElem?_map, hj]; rfl
    have hn : nmOf k0 = nmOf k := by unfold nmOf; rw [← e1, ← e2, ← e3, ← e4]
    rcases Nat.lt_trichotomy i j with h | h | h
    · have := G i j _ _ h ha hb; rw [hn] at this; unfold ltN at this; omega
    · subst h; rw [hk0'] at hj; cases hj; rfl
    · have := G j i _ _ h hb ha; rw [hn] at this; unfold ltN at this; omega
  refine rplace_w (R.le le_hA) (by omega) hl t r _ ?_ ?_
  · intro i h1 hi h2 h3 le1
    simp(disch:=first|omega|(simp only[Wx];done)|(simp only[Wy];done)|(simp only[Wv];omega)|with_unfolding_all rfl)only[Wz,ptrTo,sliceTo]
    refine hk0 h1 (fun k hk e1 e2 => ?_) (le_hA.trans le1)
    obtain ⟨j, hj⟩ := List.getElem?_of_mem hk
    have hnm : nmOf k = (t, r) := by unfold nmOf; rw [← e1, ← e2]
    rcases Nat.lt_trichotomy j i with h | h | h
    · have := h2 j k h hj; rw [hnm] at this; unfold ltN at this; omega
    · subst h; have := h3 k hj; rw [hnm] at this; unfold ltN at this; omega
    · exfalso
      have hlt : i < K.length := by have := (List.getElem?_eq_some_iff.1 hj).1; omega
      obtain ⟨ki, hki⟩ : ∃ k, K[i]? = some k := ⟨_, List.getElem?_eq_getElem hlt⟩
      have g1 := h3 ki hki
      have g2 := pw_get.1 srt i j (nmOf ki) (nmOf k) h (by rw [List.getElem?_map, hki]; rfl) (by rw [List.getElem?_map, hj]; rfl)
      have := ltN_trans g1 g2
      rw [hnm] at this; unfold ltN at this; omega
  · intro i k h1 hk e1 e2 le1
    have n1 := le1.nx
    have l1 := le1.lo
    have R1 := (R.le le_hA).le le1
    have c1 := R1.cell
    have hkK := List.mem_of_getElem? hk
    have hsm := (gd k hkK).small
    obtain ⟨b, o, hb, hat, hld⟩ := R1.ld i hk
    have L1 := hld h1 (Le.refl _)
    have hq := (R1.qv k hkK).sl
    simp(disch:=first|omega|(simp only[Wx];done)|(simp only[Wy];done)|(simp only[Wv];omega)|with_unfolding_all rfl)only[Wz,ptrTo,sliceTo]
    refine ⟨fun n l h' => ∃ j : Nat, slot l 41 = .int .i64 (j : Int) ∧ j ≤ k.Q.length ∧ n = k.Q.length - j ∧ (∀ (m : Nat) (p : R5), m < j → k.Q[m]? = some p → p.x ≠ x) ∧ HQ h1 h', ⟨_, 0, rfl, Nat.zero_le _, rfl, fun j k hj => (by omega), rfl⟩, ?_⟩
    rintro n l h' ⟨j, s1, hj, rfl, hall, hQ⟩
    cases (show h1 = h' from hQ)
    by_cases hlt : j < k.Q.length
    · obtain ⟨p, hp⟩ : ∃ p, k.Q[j]? = some p := ⟨_, List.getElem?_eq_getElem hlt⟩
      obtain ⟨b2, o2, hb2, hat2, hld2⟩ := ld5 hq j hp
      by_cases hx : p.x = x
      · simp (maxSteps := 3000000) (disch:=first|omega|(simp only[Wx];done)|(simp only[Wy];done)|(simp only[Wv];omega)|with_unfolding_all rfl)only[Wz,ptrTo,sliceTo, rs_22_2, nil_at, c1, hat, L1, hq.len, s1, lt_t (show (j : Int) < (k.Q.length : Int) by omega), rs_22_1, hat2, hld2, dec_t hx, rs_22_0]
        exact hk1 h1 k p hkK e1.symm e2.symm (List.mem_of_getElem? hp) hx (le_hA.trans le1)
      · simp (maxSteps := 3000000) (disch:=first|omega|(simp only[Wx];done)|(simp only[Wy];done)|(simp only[Wv];omega)|with_unfolding_all rfl)only[Wz,ptrTo,sliceTo, rs_22_2, nil_at, c1, hat, L1, hq.len, s1, lt_t (show (j : Int) < (k.Q.length : Int) by omega), rs_22_1, hat2, hld2, dec_f hx]
        refine ⟨_, by omega, j + 1, rfl, by omega, rfl, fun m q hm hq' => ?_, rfl⟩
        by_cases e : m = j
        · subst e; rw [hp] at hq'; cases hq'; exact hx
        · exact hall m q (by omega) hq'
    · have hjl : j = k.Q.length := by omega
      subst hjl
      simp (maxSteps := 3000000) (disch:=first|omega|(simp only[Wx];done)|(simp only[Wy];done)|(simp only[Wv];omega)|with_unfolding_all rfl)only[Wz,ptrTo,sliceTo, rs_22_2, nil_at, c1, hat, L1, hq.len, s1, lt_f (show (k.Q.length : Int) ≤ (k.Q.length : Int) by omega)]
      refine hk0 h1 (fun k' hk' e3 e4 p hp => ?_) (le_hA.trans le1)
      have := far i k k' hk hk' e1.symm e2.symm e3 e4
      subst this
      obtain ⟨m, hm⟩ := List.getElem?_of_mem hp
      exact hall m p (List.getElem?_eq_some_iff.1 hm).1 hm
theorem rgetB_w (R : RBk a h rb rp most v K) (hlo : h.lo ≤ h.nx) (hl : K.length ≤ 1000) (gd : ∀ k ∈ K, HeadOk k) (d : Int) (κ : Value → Heap → Prop)
    (hk0 : ∀ h', (∀ k ∈ K, findQ k.Q d = none) → Le h h' → κ (.tuple ⟨[nmV 0 0, aggR ⟨0, 0, 0, 0, 0⟩, .bool false]⟩) h')
    (hk1 : ∀ h' k p, k ∈ K → findQ k.Q d = some p → Le h h' → κ (.tuple ⟨[nmV k.t k.r, aggR p, .bool true]⟩) h') :
    CallW Tryz.prog 20 [.pointer (some ⟨rb, 0, none⟩), .int .i64 d] h κ := by
  refine callW_of mixed ?_
  rw [rs_20]
  simp(disch:=first|omega|(simp only[Wx];done)|(simp only[Wy];done)|(simp only[Wv];omega)|with_unfolding_all rfl)only[Wz,ptrTo,sliceTo]
  obtain ⟨hA, e_hA⟩ : ∃ hA : Heap, hA = ⟨h.nx + 1 + 1, ((h.bl.upd (h.nx) (cellsO [.int .i64 0, .int .i64 0] 38 false)).upd (h.nx + 1) (blkR ⟨0, 0, 0, 0, 0⟩)), h.lo⟩ := ⟨_, rfl⟩
  have le_hA : Le h hA := by subst e_hA; exact (((Le.refl h).new _).new _)
  have g1 : hA.bl.get (h.nx) = some (cellsO [.int .i64 0, .int .i64 0] 38 false) := by subst e_hA; exact (T.get_updne _ _ (by omega)).trans (T.get_upd_same _ _ _)
  have g3 : hA.bl.get (h.nx + 1) = some (blkR ⟨0, 0, 0, 0, 0⟩) := by subst e_hA; exact T.get_upd_same _ _ _
  have n_hA : hA.nx = h.nx + 1 + 1 := by subst e_hA; rfl
  have l_hA : hA.lo = h.lo := by subst e_hA; rfl
  rw [← e_hA]
  clear e_hA
  refine rof_w (R.le le_hA) (by omega) hl gd d _ ?_ ?_
  · intro h1 hno le1
    have n_le1 := le1.nx
    have l_le1 := le1.lo
    have g1 := (le1.get _ (by omega)).trans g1
    have g3 := (le1.get _ (by omega)).trans g3
    simp(disch:=first|omega|(simp only[Wx];done)|(simp only[Wy];done)|(simp only[Wv];omega)|with_unfolding_all rfl)only[Wz,ptrTo,sliceTo, lt_t (show (-1 : Int) < 0 by decide), g1, g3, enc5]
    exact hk0 _ hno ((((le_hA.trans le1).set (b := h.nx) (by omega) _)).set (b := h.nx + 1) (by omega) _)
  · intro i k p h1 hk hf le1
    have n_le1 := le1.nx
    have l_le1 := le1.lo
    have g1 := (le1.get _ (by omega)).trans g1
    have g3 := (le1.get _ (by omega)).trans g3
    have R1 := (R.le le_hA).le le1
    have c1 := R1.cell
    have hkK := List.mem_of_getElem? hk
    have hsm := (gd k hkK).small
    obtain ⟨b, o, hb, hat, hld⟩ := R1.ld i hk
    have L1 := hld h1 (Le.refl _)
    simp(disch:=first|omega|(simp only[Wx];done)|(simp only[Wy];done)|(simp only[Wv];omega)|with_unfolding_all rfl)only[Wz,ptrTo,sliceTo, lt_f (show (0 : Int) ≤ (i : Int) by omega), rs_20_0, nil_at, c1, hat, L1]
    refine rfind9_w k.t k.r k.q k.w d k.Q h1 _ (R1.qv k hkK).sl (by omega) (by omega) ?_
    intro h2 le2
    have n_le2 := le2.nx
    have l_le2 := le2.lo
    have g1 := (le2.get _ (by omega)).trans g1
    have g3 := (le2.get _ (by omega)).trans g3
    rw [hf]
    have c2 := (R1.le le2).cell
    have hrb := R.lt
    have L2 := hld h2 le2
    simp (maxSteps := 3000000) (disch:=first|omega|(simp only[Wx];done)|(simp only[Wy];done)|(simp only[Wv];omega)|with_unfolding_all rfl)only[Wz,ptrTo,sliceTo, enc5, nil_at, c2, hat, L2, g1, g3, veqR]
    exact hk1 _ k p hkK hf (((((le_hA.trans le1).trans le2).new _).set (b := h.nx) (by omega) _).set (b := h.nx + 1) (by omega) _)
end
end Go.Proofs
