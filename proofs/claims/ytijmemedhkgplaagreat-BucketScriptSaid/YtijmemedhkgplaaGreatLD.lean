/-
  PROVED HERE: a part of the proof, by a calculus of weakest conditions over an abstract heap (L15, L16, L17, L18, L19).
-/
import Derived.Test.YtijmemedhkgplaaGreatLC
set_option linter.unusedVariables false
set_option linter.unusedSimpArgs false
set_option maxRecDepth 100000
set_option maxHeartbeats 1000000
set_option maxHeartbeats 8000000
namespace Go.Proofs
open Go.Vai Go.Clashes
section
variable {a h : Heap} {rb rp rl most : Nat} {v : Value} {K : List HE} {B : List Bool}
theorem fill_h2 {β : Type} {fl : β} (t r : Int) (κ : List Value → β) : fillB fl [(0, 2)] [.agg ⟨[.int .i64 t, .int .i64 r]⟩] [.int .i64 0, .int .i64 0, .slice none 0 0, .int .i64 0] κ = κ [.int .i64 t, .int .i64 r, .slice none 0 0, .int .i64 0] := id rfl
theorem raskB_w (R : RBk a h rb rp most v K) (p : RPool h rp rl B) (hlo : h.lo ≤ h.nx) (la : a.nx ≤ h.nx) (hl : K.length ≤ 1000) (gd : ∀ k ∈ K, HeadOk k) (srt : (K.map nmOf).Pairwise ltN) (hw : ∀ k ∈ K, k.w ≤ 100000)
    (ids : ∀ k ∈ K, ∀ p ∈ k.Q, ∃ n : Nat, p.id = (n : Int) ∧ B[n]? = some true) (t r x m : Int) (κ : Value → Heap → Prop)
    (hk2 : ∀ h', askedM m = false → Le h h' → κ (.tuple ⟨[.int .i64 0, .bool false, .int .i64 2]⟩) h')
    (hk4 : ∀ h' k p, askedM m = true → k ∈ K → t = k.t → r = k.r → p ∈ k.Q → p.x = x → Le h h' → κ (.tuple ⟨[.int .i64 0, .bool false, .int .i64 4]⟩) h')
    (hk8 : ∀ h', askedM m = true → (∀ k ∈ K, t = k.t → r = k.r → ∀ p ∈ k.Q, p.x ≠ x) → (B.length ≤ (lentL B).length ∨ ((∀ k ∈ K, ¬ (t = k.t ∧ r = k.r)) ∧ most ≤ K.length)) → Le h h' → κ (.tuple ⟨[.int .i64 0, .bool false, .int .i64 8]⟩) h')
    (hkO : ∀ (n i : Nat) k q' v' h', askedM m = true → (∀ k ∈ K, t = k.t → r = k.r → ∀ p ∈ k.Q, p.x ≠ x) → B[n]? = some false → (∀ k, k < n → B[k]? = some true) → K[i]? = some k → k.t = t → k.r = r →
      RBk a h' rb rp most v' (K.set i ⟨t, r, 0, 0, q', (askR k.Q k.w n x m).2.1, k.Q ++ [(askR k.Q k.w n x m).1]⟩) → RPool h' rp rl (B.set n true) → FrK (SK rb rl v) h h' → NewB h v v' → κ (.tuple ⟨[.int .i64 (n : Int), .bool (askR k.Q k.w n x m).2.2, .int .i64 0]⟩) h')
    (hkN : ∀ (n i : Nat) q' v' h', askedM m = true → (∀ k ∈ K, ¬ (t = k.t ∧ r = k.r)) → K.length < most → B[n]? = some false → (∀ k, k < n → B[k]? = some true) → (∀ (j : Nat) (k : HE), j < i → K[j]? = some k → ltN (nmOf k) (t, r)) → (∀ (j : Nat) (k : HE), i ≤ j → K[j]? = some k → ltN (t, r) (nmOf k)) →
      RBk a h' rb rp most v' (K.take i ++ ⟨t, r, 0, 0, q', (askR [] 0 n x m).2.1, [] ++ [(askR [] 0 n x m).1]⟩ :: K.drop i) → RPool h' rp rl (B.set n true) → FrK (SK rb rl v) h h' → NewB h v v' → κ (.tuple ⟨[.int .i64 (n : Int), .bool (askR [] 0 n x m).2.2, .int .i64 0]⟩) h') :
    CallW Tryz.prog 42 [.pointer (some ⟨rb, 0, none⟩), nmV t r, .int .i64 x, .int .i64 m] h κ := by
  have hrb := R.lt
  have hprl := p.ltl
  refine callW_of mixed ?_
  rw [rs_42]
  simp(disch:=first|omega|(simp only[Wx];done)|(simp only[Wy];done)|(simp only[Wv];omega)|with_unfolding_all rfl)only[Wz,ptrTo,sliceTo, nmV]
  obtain ⟨hA, e_hA⟩ : ∃ hA : Heap, hA = ⟨h.nx + 1, (h.bl.upd (h.nx) (cellsO [.int .i64 t, .int .i64 r] 38 false)), h.lo⟩ := ⟨_, rfl⟩
  have le_hA : Le h hA := by subst e_hA; exact ((Le.refl h).new _)
  have g1 : hA.bl.get (h.nx) = some (cellsO [.int .i64 t, .int .i64 r] 38 false) := by subst e_hA; exact T.get_upd_same _ _ _
  have n_hA : hA.nx = h.nx + 1 := by subst e_hA; rfl
  have l_hA : hA.lo = h.lo := by subst e_hA; rfl
  rw [← e_hA]
  clear e_hA
  have RA := R.le le_hA
  have pA := p.le le_hA
  by_cases am : askedM m = true
  case neg =>
    have am0 : askedM m = false := by simpa using am
    by_cases h0 : m = 0
    · simp(disch:=first|omega|(simp only[Wx];done)|(simp only[Wy];done)|(simp only[Wv];omega)|with_unfolding_all rfl)only[Wz,ptrTo,sliceTo, dec_t h0]
      exact hk2 _ am0 le_hA
    · simp(disch:=first|omega|(simp only[Wx];done)|(simp only[Wy];done)|(simp only[Wv];omega)|with_unfolding_all rfl)only[Wz,ptrTo,sliceTo, dec_f h0]
      refine rknown_w m ?_
      have : kn m = false := by
        have : askedM m = kn m := by unfold askedM; simp [h0]
        rw [← this]; exact am0
      rw [this]
      simp(disch:=first|omega|(simp only[Wx];done)|(simp only[Wy];done)|(simp only[Wv];omega)|with_unfolding_all rfl)only[Wz,ptrTo,sliceTo]
      exact hk2 _ am0 le_hA
  obtain ⟨m0, km⟩ := (askedM_iff m).1 am
  simp(disch:=first|omega|(simp only[Wx];done)|(simp only[Wy];done)|(simp only[Wv];omega)|with_unfolding_all rfl)only[Wz,ptrTo,sliceTo, dec_f m0]
  refine rknown_w m ?_
  rw [km]
  simp(disch:=first|omega|(simp only[Wx];done)|(simp only[Wy];done)|(simp only[Wv];omega)|with_unfolding_all rfl)only[Wz,ptrTo,sliceTo, rs_42_5, g1]
  refine rfindB_w RA (by omega) hl gd srt t r x _ ?_ ?_
  case refine_2 =>
    intro h1 k p0 hk ht hr hp0 hx le1
    simp(disch:=first|omega|(simp only[Wx];done)|(simp only[Wy];done)|(simp only[Wv];omega)|with_unfolding_all rfl)only[Wz,ptrTo,sliceTo]
    exact hk4 h1 k p0 am hk ht hr hp0 hx (le_hA.trans le1)
  intro h1 hno le1
  have n_le1 := le1.nx
  have l_le1 := le1.lo
  have g1 := (le1.get _ (by omega)).trans g1
  have R1 := RA.le le1
  simp(disch:=first|omega|(simp only[Wx];done)|(simp only[Wy];done)|(simp only[Wv];omega)|with_unfolding_all rfl)only[Wz,ptrTo,sliceTo, rs_42_4, g1]
  refine rplace_w R1 (by omega) hl t r _ ?_ ?_
  · intro i h2 hi hb1 hb2 le2
    have n_le2 := le2.nx
    have l_le2 := le2.lo
    have g1 := (le2.get _ (by omega)).trans g1
    have le02 := (le_hA.trans le1).trans le2
    have R2 := R.le le02
    have p2 := p.le le02
    have c2 := R2.cell
    have hlen : ∀ (β : Type) (fl : β) (h' : Heap) (κ : Value → Heap → β), lenSli fl v h' κ = κ (.int .i64 (K.length : Int)) h' := fun β fl h' κ => R2.own.sl.len κ h'
    have hall : ∀ (j : Nat) (k : HE), i ≤ j → K[j]? = some k → ltN (t, r) (nmOf k) := by
      intro j k hj hkj
      have hil : i < K.length := by have := (List.getElem?_eq_some_iff.1 hkj).1; omega
      obtain ⟨k0, hk0⟩ : ∃ k0, K[i]? = some k0 := ⟨_, List.getElem?_eq_getElem hil⟩
      have h0 := hb2 k0 hk0
      by_cases e : i = j
      · subst e; rw [hk0] at hkj; cases hkj; exact h0
      · have G := pw_get.1 srt
        exact ltN_trans h0 (G i j _ _ (by omega) (by rw [List.getElem?_map, hk0]; rfl) (by rw [List.getElem?_map, hkj]; rfl))
    have hnn : ∀ k ∈ K, ¬ (t = k.t ∧ r = k.r) := by
      rintro k hk ⟨e1, e2⟩
      obtain ⟨j, hj⟩ := List.getElem?_of_mem hk
      by_cases hji : j < i
      · have := hb1 j k hji hj
        unfold ltN nmOf at this
        simp only at this
        omega
      · have := hall j k (by omega) hj
        unfold ltN nmOf at this
        simp only at this
        omega
    by_cases hfull : most ≤ K.length
    · simp(disch:=first|omega|(simp only[Wx];done)|(simp only[Wy];done)|(simp only[Wv];omega)|with_unfolding_all rfl)only[Wz,ptrTo,sliceTo, nil_at, c2, hlen, dec_t (show (most : Int) ≤ (K.length : Int) by omega)]
      exact hk8 h2 am hno (.inr ⟨hnn, hfull⟩) le02
    simp(disch:=first|omega|(simp only[Wx];done)|(simp only[Wy];done)|(simp only[Wv];omega)|with_unfolding_all rfl)only[Wz,ptrTo,sliceTo, nil_at, c2, hlen, dec_f (show ¬ (most : Int) ≤ (K.length : Int) by omega)]
    refine rlive_w p2 (by omega) _ ?_
    intro h3 le3
    have n_le3 := le3.nx
    have l_le3 := le3.lo
    have g1 := (le3.get _ (by omega)).trans g1
    have le03 := le02.trans le3
    have R3 := R.le le03
    have p3 := p.le le03
    have c3 := R3.cell
    simp(disch:=first|omega|(simp only[Wx];done)|(simp only[Wy];done)|(simp only[Wv];omega)|with_unfolding_all rfl)only[Wz,ptrTo,sliceTo, nil_at, c3]
    refine rmost_w p3 _ ?_
    by_cases hroom : B.length ≤ (lentL B).length
    · simp(disch:=first|omega|(simp only[Wx];done)|(simp only[Wy];done)|(simp only[Wv];omega)|with_unfolding_all rfl)only[Wz,ptrTo,sliceTo, dec_t (show (B.length : Int) ≤ ((lentL B).length : Int) by omega)]
      exact hk8 h3 am hno (.inl hroom) le03
    simp(disch:=first|omega|(simp only[Wx];done)|(simp only[Wy];done)|(simp only[Wv];omega)|with_unfolding_all rfl)only[Wz,ptrTo,sliceTo, dec_f (show ¬ (B.length : Int) ≤ ((lentL B).length : Int) by omega), rs_42_3, g1, fill_h2]
    obtain ⟨hB, e_hB⟩ : ∃ hB : Heap, hB = ⟨h3.nx + 1, (h3.bl.upd (h3.nx) (cellsO [.int .i64 t, .int .i64 r, .slice none 0 0, .int .i64 0] 56 false)), h3.lo⟩ := ⟨_, rfl⟩
    have le_hB : Le h3 hB := by subst e_hB; exact ((Le.refl h3).new _)
    have gp : hB.bl.get (h3.nx) = some (cellsO [.int .i64 t, .int .i64 r, .slice none 0 0, .int .i64 0] 56 false) := by subst e_hB; exact T.get_upd_same _ _ _
    have n_hB : hB.nx = h3.nx + 1 := by subst e_hB; rfl
    have l_hB : hB.lo = h3.lo := by subst e_hB; rfl
    rw [← e_hB]
    clear e_hB
    have le0B := le03.trans le_hB
    have RB := R.le le0B
    have pB := p.le le0B
    refine ⟨fun l h' => HQ hB h', rfl, ?_⟩
    rintro l h' hQ
    cases (show hB = h' from hQ)
    refine rask2_w RB pB (by omega) (by omega) hl t r x m am (q := .slice none 0 0) (w := 0) (Q := []) ⟨⟨none, 0, rfl, fun e => absurd rfl e⟩, fun b o n c hv => by cases hv⟩ (by simp) (by omega) (fun n _ o ho => (nomatch ho)) (pb := h3.nx) (by omega) (by omega) gp (by omega) i i false (.inr ⟨rfl, rfl⟩) hi κ ?_
    intro n q' v' h' hb hlst R' p' f' nb'
    refine hkN n i q' v' h' am hnn (by omega) hb hlst hb1 hall R' p' ((FrK.of_le le0B).trans f' ?_) (nb'.up (by omega))
    rintro c hc (e | e | e)
    · exact .inl e
    · exact .inr (.inl e)
    · omega
  · intro i k h2 hk ht hr le2
    have n_le2 := le2.nx
    have l_le2 := le2.lo
    have g1 := (le2.get _ (by omega)).trans g1
    have le02 := (le_hA.trans le1).trans le2
    have R2 := R.le le02
    have p2 := p.le le02
    have c2 := R2.cell
    have hkK := List.mem_of_getElem? hk
    have hil := (List.getElem?_eq_some_iff.1 hk).1
    simp(disch:=first|omega|(simp only[Wx];done)|(simp only[Wy];done)|(simp only[Wv];omega)|with_unfolding_all rfl)only[Wz,ptrTo,sliceTo, nil_at, c2]
    refine rlive_w p2 (by omega) _ ?_
    intro h3 le3
    have n_le3 := le3.nx
    have l_le3 := le3.lo
    have g1 := (le3.get _ (by omega)).trans g1
    have le03 := le02.trans le3
    have R3 := R.le le03
    have p3 := p.le le03
    have c3 := R3.cell
    simp(disch:=first|omega|(simp only[Wx];done)|(simp only[Wy];done)|(simp only[Wv];omega)|with_unfolding_all rfl)only[Wz,ptrTo,sliceTo, nil_at, c3]
    refine rmost_w p3 _ ?_
    by_cases hroom : B.length ≤ (lentL B).length
    · simp(disch:=first|omega|(simp only[Wx];done)|(simp only[Wy];done)|(simp only[Wv];omega)|with_unfolding_all rfl)only[Wz,ptrTo,sliceTo, dec_t (show (B.length : Int) ≤ ((lentL B).length : Int) by omega)]
      exact hk8 h3 am hno (.inl hroom) le03
    simp(disch:=first|omega|(simp only[Wx];done)|(simp only[Wy];done)|(simp only[Wv];omega)|with_unfolding_all rfl)only[Wz,ptrTo,sliceTo, dec_f (show ¬ (B.length : Int) ≤ ((lentL B).length : Int) by omega), rs_42_3, g1, fill_h2]
    obtain ⟨hB, e_hB⟩ : ∃ hB : Heap, hB = ⟨h3.nx + 1, (h3.bl.upd (h3.nx) (cellsO [.int .i64 t, .int .i64 r, .slice none 0 0, .int .i64 0] 56 false)), h3.lo⟩ := ⟨_, rfl⟩
    have le_hB : Le h3 hB := by subst e_hB; exact ((Le.refl h3).new _)
    have gp : hB.bl.get (h3.nx) = some (cellsO [.int .i64 t, .int .i64 r, .slice none 0 0, .int .i64 0] 56 false) := by subst e_hB; exact T.get_upd_same _ _ _
    have n_hB : hB.nx = h3.nx + 1 := by subst e_hB; rfl
    have l_hB : hB.lo = h3.lo := by subst e_hB; rfl
    rw [← e_hB]
    clear e_hB
    have le0B := le03.trans le_hB
    have RB := R.le le0B
    have cB := RB.cell
    obtain ⟨b, o, hb, hat, hld⟩ := RB.ld i hk
    have L1 := hld hB (Le.refl _)
    obtain ⟨hC, eC⟩ : ∃ hC : Heap, hC = ⟨hB.nx, hB.bl.upd h3.nx (cellsO [.int .i64 k.t, .int .i64 k.r, k.q, .int .i64 k.w] 56 false), hB.lo⟩ := ⟨_, rfl⟩
    have le3C : Le h3 hC := by rw [eC]; exact le_hB.set (b := h3.nx) (Nat.le_refl _) _
    have le0C := le03.trans le3C
    have gC : hC.bl.get h3.nx = some (cellsO [.int .i64 t, .int .i64 r, k.q, .int .i64 k.w] 56 false) := by rw [eC, ht, hr]; exact T.get_upd_same _ _ _
    have nC : hC.nx = h3.nx + 1 := by rw [eC]; exact n_hB
    have lC : hC.lo = h3.lo := by rw [eC]; exact l_hB
    have RC := R.le le0C
    have pC := p.le le0C
    have gdk := gd k hkK
    have hqC := RC.qv k hkK
    refine ⟨fun l h' => HQ hC h', ?_, ?_⟩
    · obtain ⟨qx, qc, eq, _⟩ := hqC.sl
      simp only [eq] at L1
      simp(disch:=first|omega|(simp only[Wx];done)|(simp only[Wy];done)|(simp only[Wv];omega)|with_unfolding_all rfl)only[Wz,ptrTo,sliceTo, rs_42_0, nil_at, cB, hat, L1, gp]
      rw [eC, eq]; exact rfl
    rintro l h' hQ
    cases (show hC = h' from hQ)
    have hsm := gdk.small
    have hwk := hw k hkK
    refine rask2_w RC pC (by omega) (by omega) hl t r x m am (q := k.q) (w := k.w) (Q := k.Q) (QV.own hqC) (by omega) ⟨gdk.vq.w0, hwk⟩ (fun n hb o ho => ⟨fun e => ?_, hno k hkK ht.symm hr.symm o ho⟩) (pb := h3.nx) (by omega) (by omega) gC (by omega) i (i + 1) true (.inl ⟨rfl, rfl⟩) hil κ ?_
    · obtain ⟨n', e1, e2⟩ := ids k hkK o ho
      have : n' = n := by omega
      subst this
      rw [hb] at e2; cases e2
    intro n q' v' h' hb hlst R' p' f' nb'
    refine hkO n i k q' v' h' am hno hb hlst hk ht hr ?_ p' ((FrK.of_le le0C).trans f' ?_) (nb'.up (by omega))
    · rw [List.set_eq_take_append_cons_drop, if_pos hil]
      exact R'
    · rintro c hc (e | e | e)
      · exact .inl e
      · exact .inr (.inl e)
      · omega
end
end Go.Proofs

namespace Go.Proofs
open Go.Vai Go.Clashes
theorem rnew10_w (most : Nat) (h : Heap) (κ : Value → Heap → Prop) (hm : most ≤ 128) (hlo : h.lo ≤ h.nx)
    (hk : ∀ rp rl h', RPool h' rp rl (List.replicate most false) → h.nx ≤ rp → h.nx ≤ rl → Le h h' → κ (.tuple ⟨[.pointer (some ⟨rp, 0, none⟩), .int .i64 0]⟩) h') :
    CallW Tryz.prog 9 [.int .i64 (most : Int)] h κ := by
  refine callW_of mixed ?_
  rw [rs_9]
  simp(disch:=first|omega|(simp only[Wx];done)|(simp only[Wy];done)|(simp only[Wv];omega)|with_unfolding_all rfl)only[Wz,ptrTo,sliceTo, lt_f (show (0 : Int) ≤ (most : Int) by omega), lt_f (show (most : Int) ≤ 128 by omega)]
  have hrl : (repeatL [Value.bool false] most).length = most := by rw [repeat_bool]; simp
  rw [mkSl_eq _ _ _ _ _ (by omega) (by omega), repeat_bool]
  simp(disch:=first|omega|(simp only[Wx];done)|(simp only[Wy];done)|(simp only[Wv];omega)|with_unfolding_all rfl)only[Wz,ptrTo,sliceTo]
  obtain ⟨hA, e_hA⟩ : ∃ hA : Heap, hA = ⟨h.nx + 1 + 1, ((h.bl.upd (h.nx) (cellsO ((List.replicate most false).map Value.bool) 4 false)).upd (h.nx + 1) (cellsO [.slice (some ⟨h.nx, 0, none⟩) most most] 75 false)), h.lo⟩ := ⟨_, rfl⟩
  have le_hA : Le h hA := by subst e_hA; exact (((Le.refl h).new _).new _)
  have gl : hA.bl.get (h.nx) = some (cellsO ((List.replicate most false).map Value.bool) 4 false) := by subst e_hA; exact (T.get_updne _ _ (by omega)).trans (T.get_upd_same _ _ _)
  have gp : hA.bl.get (h.nx + 1) = some (cellsO [.slice (some ⟨h.nx, 0, none⟩) most most] 75 false) := by subst e_hA; exact T.get_upd_same _ _ _
  have n_hA : hA.nx = h.nx + 1 + 1 := by subst e_hA; rfl
  have l_hA : hA.lo = h.lo := by subst e_hA; rfl
  rw [← e_hA]
  clear e_hA
  exact hk (h.nx + 1) h.nx hA ⟨by omega, by omega, by omega, by omega, by rw [List.length_replicate]; exact gp, gl, by rw [List.length_replicate]; exact hm⟩ (by omega) (by omega) le_hA
theorem eq29k (h : Heap) (b o : Nat) : eqB Tryz.prog h 100 29 (.pointer (some ⟨b, o, none⟩)) (.pointer none) = some false := by kernel_rfl
theorem bin_eq29 {β : Type} {fl : β} (cn : Bool) (b o : Nat) (h : Heap) (κ : Value → Heap → β) : binB fl Tryz.prog .eql 29 cn false (.pointer (some ⟨b, o, none⟩)) (.pointer none) h κ = κ (.bool false) h := by simp only [binB, eq29k, fbK_eq]
theorem rnew11_w (heads : Int) (rp : Nat) (a h : Heap) (κ : Value → Heap → Prop) (hlo : h.lo ≤ h.nx)
    (hk0 : (heads < 1 ∨ 64 < heads) → κ (.tuple ⟨[.pointer none, .int .i64 2]⟩) h)
    (hk : ∀ rb h' (n : Nat), heads = (n : Int) → 1 ≤ n ∧ n ≤ 64 → RBk a h' rb rp n (.slice none 0 0) [] → h.nx ≤ rb → Le h h' → κ (.tuple ⟨[.pointer (some ⟨rb, 0, none⟩), .int .i64 0]⟩) h') :
    CallW Tryz.prog 10 [.int .i64 heads, .pointer (some ⟨rp, 0, none⟩)] h κ := by
  refine callW_of mixed ?_
  rw [rs_10]
  by_cases h1 : heads < 1
  · simp(disch:=first|omega|(simp only[Wx];done)|(simp only[Wy];done)|(simp only[Wv];omega)|with_unfolding_all rfl)only[Wz,ptrTo,sliceTo, dec_t h1]
    exact hk0 (.inl h1)
  by_cases h2 : 64 < heads
  · simp(disch:=first|omega|(simp only[Wx];done)|(simp only[Wy];done)|(simp only[Wv];omega)|with_unfolding_all rfl)only[Wz,ptrTo,sliceTo, dec_f h1, dec_t h2]
    exact hk0 (.inr h2)
  obtain ⟨n, rfl⟩ : ∃ n : Nat, heads = (n : Int) := ⟨heads.toNat, by omega⟩
  simp(disch:=first|omega|(simp only[Wx];done)|(simp only[Wy];done)|(simp only[Wv];omega)|with_unfolding_all rfl)only[Wz,ptrTo,sliceTo, dec_f h1, dec_f h2, bin_eq29]
  obtain ⟨hA, e_hA⟩ : ∃ hA : Heap, hA = ⟨h.nx + 1, (h.bl.upd (h.nx) (cellsO [.int .i64 (n : Int), .pointer (some ⟨rp, 0, none⟩), .slice none 0 0] 77 false)), h.lo⟩ := ⟨_, rfl⟩
  have le_hA : Le h hA := by subst e_hA; exact ((Le.refl h).new _)
  have gb : hA.bl.get (h.nx) = some (cellsO [.int .i64 (n : Int), .pointer (some ⟨rp, 0, none⟩), .slice none 0 0] 77 false) := by subst e_hA; exact T.get_upd_same _ _ _
  have n_hA : hA.nx = h.nx + 1 := by subst e_hA; rfl
  have l_hA : hA.lo = h.lo := by subst e_hA; rfl
  rw [← e_hA]
  clear e_hA
  exact hk h.nx hA n rfl (by omega) ⟨by omega, by omega, gb, .inl ⟨rfl, .inl rfl⟩, fun _ => .inl rfl, fun k hk => (nomatch hk)⟩ (Nat.le_refl _) le_hA
def keyH (e : HE) : Int × Int × Int × List R5 := (e.t, e.r, e.w, e.Q)
theorem keyH_same {a b : HE} (h : keyH a = keyH b) : SameH a b := by
  unfold keyH at h
  obtain ⟨h1, h2, h3, h4⟩ : a.t = b.t ∧ a.r = b.r ∧ a.w = b.w ∧ a.Q = b.Q := by simpa using h
  exact ⟨h1, h2, h3, h4⟩
section
variable {a h : Heap} {rb rp rl most : Nat} {v : Value} {K : List HE} {B : List Bool}
theorem rheads_w (R : RBk a h rb rp most v K) (hlo : h.lo ≤ h.nx) (hl : K.length ≤ 1000) (hqs : ∀ k ∈ K, k.Q.length ≤ 1000) (κ : Value → Heap → Prop)
    (hk : ∀ v1 h' K', K'.map keyH = K.map keyH → (∀ k ∈ K', QV h' k.q k.Q) → OwnH h h' v1 K' → Le h h' → κ v1 h') :
    CallW Tryz.prog 14 [.pointer (some ⟨rb, 0, none⟩)] h κ := by
  refine callW_of mixed ?_
  rw [rs_14]
  refine ⟨fun m l h2 => ∃ (i : Nat) (K1 : List HE), slot l 27 = .int .i64 (i : Int) ∧ m = K.length - i ∧ i ≤ K.length ∧ K1.map keyH = (K.take i).map keyH ∧ (∀ k ∈ K1, QV h2 k.q k.Q) ∧ OwnH h h2 (slot l 24) K1 ∧ Le h h2,
    ⟨_, 0, [], rfl, rfl, by omega, rfl, fun k hk => (nomatch hk), .inl ⟨rfl, .inl rfl⟩, Le.refl _⟩, ?_⟩
  rintro m l h2 ⟨i, K1, s1, rfl, hi, hK, hQ, hoK, le2⟩
  have n2 := le2.nx
  have l2 := le2.lo
  have R2 := R.le le2
  have c2 := R2.cell
  have hlen : ∀ (β : Type) (fl : β) (h' : Heap) (κ : Value → Heap → β), lenSli fl v h' κ = κ (.int .i64 (K.length : Int)) h' := fun β fl h' κ => R2.own.sl.len κ h'
  have hKl : K1.length = i := by have := congrArg List.length hK; simp at this; omega
  by_cases hst : i < K.length
  · obtain ⟨k, hk0⟩ : ∃ k, K[i]? = some k := ⟨_, List.getElem?_eq_getElem hst⟩
    have hkK := List.mem_of_getElem? hk0
    obtain ⟨b, o, hb, hat, hld⟩ := R2.ld i hk0
    have L1 := hld h2 (Le.refl _)
    have hqk := (R2.qv k hkK).sl
    have hql := hqs k hkK
    obtain ⟨qx, qc, eq, _⟩ := (show Sl enc5 h2 k.q k.Q from hqk)
    simp only [eq] at L1
    rw [eq] at hqk
    simp(disch:=first|omega|(simp only[Wx];done)|(simp only[Wy];done)|(simp only[Wv];omega)|with_unfolding_all rfl)only[Wz,ptrTo,sliceTo, rs_14_1, nil_at, c2, hlen, s1, lt_t (show (i : Int) < (K.length : Int) by omega), rs_14_0, hat, L1, repeat0]
    obtain ⟨hB, e_hB⟩ : ∃ hB : Heap, hB = ⟨h2.nx + 1 + 1, ((h2.bl.upd (h2.nx) (cellsO [.int .i64 k.t, .int .i64 k.r, .slice qx k.Q.length qc, .int .i64 k.w] 56 false)).upd (h2.nx + 1) (cellsO [] 47 false)), h2.lo⟩ := ⟨_, rfl⟩
    have le_hB : Le h2 hB := by subst e_hB; exact (((Le.refl h2).new _).new _)
    have gd : hB.bl.get (h2.nx) = some (cellsO [.int .i64 k.t, .int .i64 k.r, .slice qx k.Q.length qc, .int .i64 k.w] 56 false) := by subst e_hB; exact (T.get_updne _ _ (by omega)).trans (T.get_upd_same _ _ _)
    have ge : hB.bl.get (h2.nx + 1) = some (cellsO [] 47 false) := by subst e_hB; exact T.get_upd_same _ _ _
    have n_hB : hB.nx = h2.nx + 1 + 1 := by subst e_hB; rfl
    have l_hB : hB.lo = h2.lo := by subst e_hB; rfl
    rw [← e_hB]
    clear e_hB
    refine app_more (enc := enc5) (a := hB) (L := []) (M := k.Q) enc5_len enc5_one (by decide) (by decide) (.inl ⟨rfl, .inr ⟨_, _, rfl⟩⟩) (fun _ => .inr ⟨_, _, rfl⟩) (hqk.le le_hB) (Le.refl _) (by simp; omega) (by omega) _ ?_
    intro q3 h3 ho3 em3 le3 _
    rw [List.nil_append] at ho3
    have n3 := le3.nx
    have l3 := le3.lo
    have gd := (le3.get _ (by omega)).trans gd
    obtain ⟨qx3, qc3, rfl, _⟩ := (show Sl enc5 h3 q3 k.Q from ho3.sl)
    simp(disch:=first|omega|(simp only[Wx];done)|(simp only[Wy];done)|(simp only[Wv];omega)|with_unfolding_all rfl)only[Wz,ptrTo,sliceTo, gd]
    obtain ⟨h4, e4⟩ : ∃ h4 : Heap, h4 = ⟨h3.nx + 1, (h3.bl.upd h2.nx (cellsO [.int .i64 k.t, .int .i64 k.r, .slice qx3 k.Q.length qc3, .int .i64 k.w] 56 false)).upd h3.nx (cellsO [.int .i64 k.t, .int .i64 k.r, .slice qx3 k.Q.length qc3, .int .i64 k.w] 56 false), h3.lo⟩ := ⟨_, rfl⟩
    have le4 : Le h2 h4 := by rw [e4]; exact ((le_hB.trans le3).set (b := h2.nx) (by omega) _).new _
    have g4 : h4.bl.get h3.nx = some (cellsO ([(⟨k.t, k.r, 0, 0, .slice qx3 k.Q.length qc3, k.w, k.Q⟩ : HE)].flatMap encH) 56 false) := by rw [e4]; exact T.get_upd_same _ _ _
    have n4 : h4.nx = h3.nx + 1 := by rw [e4]
    have l4 : h4.lo = h3.lo := by rw [e4]
    have hq4 : QV h4 (.slice qx3 k.Q.length qc3) k.Q := by
      rw [e4]
      exact ((QV.own ho3).put (fun vs op => by rw [gd]; exact cells_ty (by decide)) _).le ((Le.refl _).new _)
    try rw [← e4]
    clear e4
    refine append_in (enc := encH) (a := h) (L := K1) (M := [(⟨k.t, k.r, 0, 0, .slice qx3 k.Q.length qc3, k.w, k.Q⟩ : HE)]) encH_len encH_one (by decide) (by decide) (hoK.le le4) (Sl.new (by omega) g4 _) (le2.trans le4) (by simp; omega) (by omega) _ ?_
    intro v5 h5 ho5 le5 _ n5 l5 same5
    have fr5 : ∀ c vs op, c < h4.nx → h4.bl.get c = some (cellsO vs 47 op) → h5.bl.get c = h4.bl.get c := fun c vs op hc hg => same5 c hc (by rw [hg]; exact cells_ty (by decide))
    refine ⟨_, by omega, i + 1, K1 ++ [⟨k.t, k.r, 0, 0, .slice qx3 k.Q.length qc3, k.w, k.Q⟩], rfl, rfl, by omega, ?_, ?_, ho5, le5⟩
    · rw [List.map_append, hK, List.take_add_one, hk0, List.map_append]
      rfl
    · intro k' hk'
      rcases List.mem_append.1 hk' with hk' | hk'
      · exact ((hQ k' hk').le le4).frame n5 fr5
      · rw [List.mem_singleton] at hk'; subst hk'
        exact hq4.frame n5 fr5
  · simp(disch:=first|omega|(simp only[Wx];done)|(simp only[Wy];done)|(simp only[Wv];omega)|with_unfolding_all rfl)only[Wz,ptrTo,sliceTo, rs_14_1, nil_at, c2, hlen, s1, lt_f (show (K.length : Int) ≤ (i : Int) by omega)]
    have hiD : i = K.length := by omega
    subst hiD
    rw [List.take_length] at hK
    exact hk _ h2 K1 hK hQ hoK le2
end
theorem scan_num_len : ∀ (n : Nat) (Q : List R5), (scanQ n Q).2.length ≤ n := by
  intro n
  induction n with
  | zero => intro Q; exact Nat.le_refl 0
  | succ n ih =>
    intro Q
    unfold scanQ
    split
    · exact Nat.zero_le _
    · split
      · exact Nat.zero_le _
      · split
        · exact Nat.succ_le_succ (ih _)
        · exact Nat.zero_le _
theorem cnt_le (Q : List R5) : cntW Q ≤ Q.length := List.length_filter_le _ _
theorem ldI {h : Heap} {v : Value} {L : List Int} (hs : Sl encNum h v L) (i : Nat) {p : Int} (hp : L[i]? = some p) :
    ∃ b o, b < h.nx ∧ (∀ (β : Type) (fl : β) (h' : Heap) (κ : Value → Heap → β), indexAddrS fl 1 v (.int .i64 (i : Int)) h' κ = κ (.pointer (some ⟨b, o, none⟩)) h') ∧
      (∀ (β : Type) (fl : β) (κ : Value → β), ldO fl (h.bl.get b) o κ = κ (.int .i64 p)) := by
  obtain ⟨b, o, h1, h2, h3, hh⟩ := hs.ld encNum_len i hp
  exact ⟨b, o, h1, h2, fun β fl κ => ldO_has (fl := fl) hh 0 κ (by show 0 < 1; omega)⟩
theorem sameI_w (L : List Int) (v1 v2 : Value) (h : Heap) (κ : Value → Heap → Prop) (h1 : Sl encNum h v1 L) (h2 : Sl encNum h v2 L) (hl : L.length ≤ 1000000) (hk : κ (.bool true) h) : CallW Tryz.prog 37 [v1, v2] h κ := by
  obtain ⟨x1, c1, e1, _⟩ := (show Sl encNum h v1 L from h1)
  obtain ⟨x2, c2, e2, _⟩ := (show Sl encNum h v2 L from h2)
  refine callW_of mixed ?_
  rw [rs_37]
  rw [e1, e2]
  simp(disch:=first|omega|(simp only[Wx];done)|(simp only[Wy];done)|(simp only[Wv];omega)|with_unfolding_all rfl)only[Wz,ptrTo,sliceTo]
  refine ⟨fun m l h' => ∃ i : Nat, slot l 16 = .int .i64 (i : Int) ∧ m = L.length - i ∧ i ≤ L.length ∧ HQ h h', ⟨_, 0, rfl, rfl, by omega, rfl⟩, ?_⟩
  rintro m l h' ⟨i, s1, rfl, hi, hq⟩
  cases (show h = h' from hq)
  by_cases hlt : i < L.length
  · obtain ⟨p, hp⟩ : ∃ p, L[i]? = some p := ⟨_, List.getElem?_eq_getElem hlt⟩
    obtain ⟨b1, o1, _, hx1, hr1⟩ := ldI h1 i hp
    obtain ⟨b2, o2, _, hx2, hr2⟩ := ldI h2 i hp
    rw [e1] at hx1
    rw [e2] at hx2
    simp(disch:=first|omega|(simp only[Wx];done)|(simp only[Wy];done)|(simp only[Wv];omega)|with_unfolding_all rfl)only[Wz,ptrTo,sliceTo, s1, lt_t (show (i : Int) < (L.length : Int) by omega), rs_37_0, hx1, hr1, hx2, hr2, dec_t (show p = p from rfl)]
    exact ⟨_, by omega, i + 1, rfl, rfl, by omega, rfl⟩
  · simp(disch:=first|omega|(simp only[Wx];done)|(simp only[Wy];done)|(simp only[Wv];omega)|with_unfolding_all rfl)only[Wz,ptrTo,sliceTo, s1, lt_f (show (L.length : Int) ≤ (i : Int) by omega)]
    exact hk
end Go.Proofs

namespace Go.Proofs
open Go.Vai Go.Clashes
theorem frq_keep {h h' : Heap} {bb bm bp bl most clock : Nat} {M : List HE} {F : List Int} {B : List Bool} (s : BucketIs h bb bm bp bl most M clock F B) (f : FrQ bm bp bl h h') {c : Nat} {vs : List Value} {ty : TypeId} {op : Bool} (hc : c < h.nx) (hg : h.bl.get c = some (cellsO vs ty op)) (h1 : ty ≠ 94) (h2 : ty ≠ 4) (h3 : ty ≠ 3) : h'.bl.get c = some (cellsO vs ty op) := by
  obtain ⟨fs, hgp, hpt⟩ := s.pool.fr.cell
  have gl := s.pool.cell
  have gm := s.cellm
  exact (f.get c hc (by rintro rfl; rw [hg] at gm; exact cells_map gm.symm) (by rintro rfl; rw [hg] at hgp; exact cells_ty h1 hgp) (by rintro rfl; rw [hg] at gl; exact cells_ty h2 gl) fun ws => by rw [hg]; exact cells_ty h3).trans hg
theorem ownI_keep {a h h' : Heap} {rb rp rl most : Nat} {v : Value} {K : List HE} {B : List Bool} {b0 : Heap} {vi : Value} {I : List Int} (R : RBk a h rb rp most v K) (p : RPool h rp rl B) (o : OwnI b0 h vi I) (f : FrK (SK rb rl v) h h') : OwnI b0 h' vi I := by
  refine o.keep f.nx f.lo fun c vs hc hg => f.get c hc ?_
  rintro (rfl | rfl | hb)
  · exact cells_ty (by decide) (hg.symm.trans R.cell)
  · exact cells_ty (by decide) (hg.symm.trans p.celll)
  · exact cells_ty (by decide) (hg.symm.trans (R.own.blk hb).2.2)
section
variable {a0 h : Heap} {bb bm bp bl most cap N : Nat} {M : List HE} {clock : Nat} {F : List Int} {B : List Bool} {rb rp rl : Nat} {v : Value} {K : List HE}
theorem Joint.ids (J : Joint a0 h bb bm bp bl most cap N M clock F B rb rp rl v K) : ∀ k ∈ K, ∀ p ∈ k.Q, ∃ n : Nat, p.id = (n : Int) ∧ B[n]? = some true := by
  intro k hk p hp
  obtain ⟨e, he, s⟩ := J.like.each k hk
  rw [s.2.2.2] at hp
  exact J.st.ids.find he hp
theorem Joint.wb (J : Joint a0 h bb bm bp bl most cap N M clock F B rb rp rl v K) : ∀ k ∈ K, k.w ≤ N := by
  intro k hk
  obtain ⟨e, he, s⟩ := J.like.each k hk
  rw [s.2.2.1]
  exact J.st.wb e he
theorem Joint.bkR (J : Joint a0 h bb bm bp bl most cap N M clock F B rb rp rl v K) {h1 : Heap} (f : FrQ bm bp bl h h1) : RBk a0 h1 rb rp most v K := J.bk.real J.st.is (rl := rl) f
theorem Joint.plR (J : Joint a0 h bb bm bp bl most cap N M clock F B rb rp rl v K) {h1 : Heap} (f : FrQ bm bp bl h h1) : RPool h1 rp rl B := J.pl.real J.st.is f J.ne
theorem same_w (J : Joint a0 h bb bm bp bl most cap N M clock F B rb rp rl v K) (hN : N ≤ 1000) (hm : most ≤ 64) (hlo : h.lo ≤ h.nx) (a : Act) (κ : Value → Heap → Prop)
    (hk : ∀ h' M' clock' F' B' v' K', Joint a0 h' bb bm bp bl most cap (N + 1) M' clock' F' B' rb rp rl v' K' → κ (.bool true) h') :
    CallW Tryz.prog 11 [.pointer (some ⟨bb, 0, none⟩), .pointer (some ⟨rb, 0, none⟩), .agg ⟨encA a⟩] h κ := by
  refine callW_of mixed ?_
  rw [rs_11]
  simp(disch:=first|omega|(simp only[Wx];done)|(simp only[Wy];done)|(simp only[Wv];omega)|with_unfolding_all rfl)only[Wz,ptrTo,sliceTo, encA]
  obtain ⟨hA, e_hA⟩ : ∃ hA : Heap, hA = ⟨h.nx + 1, (h.bl.upd (h.nx) (cellsO [.int .i64 a.k, .int .i64 a.t, .int .i64 a.r, .int .i64 a.id, .int .i64 a.x, .int .i64 a.m] 41 false)), h.lo⟩ := ⟨_, rfl⟩
  have le_hA : Le h hA := by subst e_hA; exact ((Le.refl h).new _)
  have ga : hA.bl.get (h.nx) = some (cellsO [.int .i64 a.k, .int .i64 a.t, .int .i64 a.r, .int .i64 a.id, .int .i64 a.x, .int .i64 a.m] 41 false) := by subst e_hA; exact T.get_upd_same _ _ _
  have n_hA : hA.nx = h.nx + 1 := by subst e_hA; rfl
  have l_hA : hA.lo = h.lo := by subst e_hA; rfl
  rw [← e_hA]
  clear e_hA
  have JA := J.leH le_hA
  clear J
  have s := JA.st
  have hle := JA.le.nx
  have hKl := JA.like.len
  have hMl := s.len
  have hgd := JA.good
  have hids := JA.ids
  have hsrt := JA.like.srt
  have hwb : ∀ k ∈ K, k.w ≤ 100000 := fun k hk => by have := JA.wb k hk; omega
  have hNN : N ≤ 100000 := by omega
  have same : ∀ h', Le hA h' → κ (.bool true) h' := fun h' l => hk h' M clock F B v K ((JA.leH l).up (by omega))
  have hno := JA.like.none s.lk (d := a.id)
  have hsm := fun (e k : HE) (he : e ∈ M) (hk : k ∈ K) (d : Int) (p p0 : R5) (hf : findQ e.Q d = some p) (hf0 : findQ k.Q d = some p0) => JA.like.same s.lk he hk hf hf0
  refine pick_w a.k 6 (by omega) ?_
  by_cases c2 : pickM a.k 6 = 2
  · simp(disch:=first|omega|(simp only[Wx];done)|(simp only[Wy];done)|(simp only[Wv];omega)|with_unfolding_all rfl)only[Wz,ptrTo,sliceTo, c2, rs_11_5, ga]
    refine upgradeBk_w s.is (by omega) N hNN s.wb a.id a.m _ ?_ ?_ ?_ ?_
    · intro h1 am l1
      have n_l1 := l1.nx
      have l_l1 := l1.lo
      have ga := (l1.get _ (by omega)).trans ga
      simp(disch:=first|omega|(simp only[Wx];done)|(simp only[Wy];done)|(simp only[Wv];omega)|with_unfolding_all rfl)only[Wz,ptrTo,sliceTo, ga]
      refine rupgradeB_w (JA.bk.le l1) (JA.pl.le l1) (by omega) (by omega) (by omega) hgd hwb a.id a.m _ ?_ ?_ ?_ ?_
      · intro h2 _ l2
        simp(disch:=first|omega|(simp only[Wx];done)|(simp only[Wy];done)|(simp only[Wv];omega)|with_unfolding_all rfl)only[Wz,ptrTo,sliceTo, eq39, dec_t (show false = false from rfl), dec_t (show (2 : Int) = 2 from rfl)]
        exact same h2 (l1.trans l2)
      · intro h2 am2; rw [am] at am2; cases am2
      · intro h2 _ _ am2; rw [am] at am2; cases am2
      · intro _ h2 _ _ _ _ am2; rw [am] at am2; cases am2
    · intro h1 am hn l1
      have n_l1 := l1.nx
      have l_l1 := l1.lo
      have ga := (l1.get _ (by omega)).trans ga
      simp(disch:=first|omega|(simp only[Wx];done)|(simp only[Wy];done)|(simp only[Wv];omega)|with_unfolding_all rfl)only[Wz,ptrTo,sliceTo, ga]
      refine rupgradeB_w (JA.bk.le l1) (JA.pl.le l1) (by omega) (by omega) (by omega) hgd hwb a.id a.m _ ?_ ?_ ?_ ?_
      · intro h2 am2; rw [am] at am2; cases am2
      · intro h2 _ _ l2
        simp(disch:=first|omega|(simp only[Wx];done)|(simp only[Wy];done)|(simp only[Wv];omega)|with_unfolding_all rfl)only[Wz,ptrTo,sliceTo, eq39, dec_t (show false = false from rfl), dec_t (show (5 : Int) = 5 from rfl)]
        exact same h2 (l1.trans l2)
      · intro h2 k p0 _ hkK hf0; rw [hno.1 hn k hkK] at hf0; cases hf0
      · intro _ h2 i k p0 _ _ hik _ hf0; rw [hno.1 hn k (List.mem_of_getElem? hik)] at hf0; cases hf0
    · intro h1 e p am he hf hps l1
      have n_l1 := l1.nx
      have l_l1 := l1.lo
      have ga := (l1.get _ (by omega)).trans ga
      simp(disch:=first|omega|(simp only[Wx];done)|(simp only[Wy];done)|(simp only[Wv];omega)|with_unfolding_all rfl)only[Wz,ptrTo,sliceTo, ga]
      refine rupgradeB_w (JA.bk.le l1) (JA.pl.le l1) (by omega) (by omega) (by omega) hgd hwb a.id a.m _ ?_ ?_ ?_ ?_
      · intro h2 am2; rw [am] at am2; cases am2
      · intro h2 _ hn _; rw [hno.2 hn e he] at hf; cases hf
      · intro h2 k p0 _ hkK hf0 _ l2
        simp(disch:=first|omega|(simp only[Wx];done)|(simp only[Wy];done)|(simp only[Wv];omega)|with_unfolding_all rfl)only[Wz,ptrTo,sliceTo, eq39, dec_t (show false = false from rfl), dec_t (show (7 : Int) = 7 from rfl)]
        exact same h2 (l1.trans l2)
      · intro _ h2 i k p0 _ _ hik _ hf0 hps0
        obtain ⟨_, _, _, _, rfl⟩ := hsm e k he (List.mem_of_getElem? hik) _ _ _ hf hf0
        exact absurd hps hps0
    · intro h1 M' clock' e p i am he hi hf hps mv
      have n1 := mv.fr.nx
      have l1 := mv.fr.lo
      have ga := frq_keep s.is mv.fr (by omega) ga (by decide) (by decide) (by decide)
      simp(disch:=first|omega|(simp only[Wx];done)|(simp only[Wy];done)|(simp only[Wv];omega)|with_unfolding_all rfl)only[Wz,ptrTo,sliceTo, ga]
      refine rupgradeB_w (JA.bkR mv.fr) (JA.plR mv.fr) (by omega) (by omega) (by omega) hgd hwb a.id a.m _ ?_ ?_ ?_ ?_
      · intro h2 am2; rw [am] at am2; cases am2
      · intro h2 _ hn _; rw [hno.2 hn e he] at hf; cases hf
      · intro h2 k p0 _ hkK hf0 hps0 _
        obtain ⟨_, _, _, _, rfl⟩ := hsm e k he hkK _ _ _ hf hf0
        exact absurd hps0 hps
      · intro q' h2 i2 k p0 j _ hik hj hf0 hps0 R2 p2 f2
        obtain ⟨kt, kr, kw, kQ, rfl⟩ := hsm e k he (List.mem_of_getElem? hik) _ _ _ hf hf0
        rw [kQ] at hj
        have hij := at_id (s.is.good e he).vq hi hj rfl
        subst hij
        rw [kQ, kw] at R2 ⊢
        simp(disch:=first|omega|(simp only[Wx];done)|(simp only[Wy];done)|(simp only[Wv];omega)|with_unfolding_all rfl)only[Wz,ptrTo,sliceTo, eq39, dec_t (show (upgR e.Q e.w p0 a.m).2.2 = (upgR e.Q e.w p0 a.m).2.2 from rfl), dec_t (show (0 : Int) = 0 from rfl)]
        refine hk h2 M' clock' F B _ _ (JA.step (BSt.same ⟨s.is, s.ids, s.wb, s.len, s.cap⟩ he mv (map_set_same hi (upgR_id _ _ _ _)) (upgR_w _ _ _ _)) mv.fr R2 p2 f2 ?_)
        exact JA.like.putAt s.lk mv.set (upg_stuck (s.is.good e he).vq (s.is.good e he).stuck hi hps am) (set_nil hi) hik kt kr ⟨rfl, rfl, rfl, rfl⟩
  by_cases c3 : pickM a.k 6 = 3
  · simp(disch:=first|omega|(simp only[Wx];done)|(simp only[Wy];done)|(simp only[Wv];omega)|with_unfolding_all rfl)only[Wz,ptrTo,sliceTo, c3, rs_11_3, ga]
    refine leaveBk_w s.is (by omega) s.ids.sub a.id _ ?_ ?_
    · intro h1 hn l1
      have n_l1 := l1.nx
      have l_l1 := l1.lo
      have ga := (l1.get _ (by omega)).trans ga
      simp(disch:=first|omega|(simp only[Wx];done)|(simp only[Wy];done)|(simp only[Wv];omega)|with_unfolding_all rfl)only[Wz,ptrTo,sliceTo, ga]
      refine rleaveB_w (JA.bk.le l1) (JA.pl.le l1) (by omega) (by omega) (by omega) hgd hids a.id _ ?_ ?_
      · intro h2 _ l2
        simp(disch:=first|omega|(simp only[Wx];done)|(simp only[Wy];done)|(simp only[Wv];omega)|with_unfolding_all rfl)only[Wz,ptrTo,sliceTo]
        refine sameI_w [] _ _ h2 _ (Sl.nil _ _ _) (Sl.nil _ _ _) (by simp) ?_
        simp(disch:=first|omega|(simp only[Wx];done)|(simp only[Wy];done)|(simp only[Wv];omega)|with_unfolding_all rfl)only[Wz,ptrTo,sliceTo, dec_t (show (5 : Int) = 5 from rfl)]
        exact same h2 (l1.trans l2)
      · intro _ _ _ h2 i k p0 _ hik hf0; rw [hno.1 hn k (List.mem_of_getElem? hik)] at hf0; cases hf0
    · intro h1 M' clock' F' vr e p n he hf hid hb _ mv oi
      have n1 := mv.fr.nx
      have l1 := mv.fr.lo
      have ga := frq_keep s.is mv.fr (by omega) ga (by decide) (by decide) (by decide)
      have R1 := JA.bkR mv.fr
      have p1 := JA.plR mv.fr
      simp(disch:=first|omega|(simp only[Wx];done)|(simp only[Wy];done)|(simp only[Wv];omega)|with_unfolding_all rfl)only[Wz,ptrTo,sliceTo, ga]
      refine rleaveB_w R1 p1 (by omega) (by omega) (by omega) hgd hids a.id _ ?_ ?_
      · intro h2 hn _; rw [hno.2 hn e he] at hf; cases hf
      · intro vi v' K' h2 i k p0 n0 hik hf0 hid0 hb0 en R2 p2 f2 _ o2
        obtain ⟨kt, kr, kw, kQ, rfl⟩ := hsm e k he (List.mem_of_getElem? hik) _ _ _ hf hf0
        obtain rfl : n0 = n := by omega
        rw [kQ] at en o2
        simp(disch:=first|omega|(simp only[Wx];done)|(simp only[Wy];done)|(simp only[Wv];omega)|with_unfolding_all rfl)only[Wz,ptrTo,sliceTo]
        refine sameI_w _ _ _ h2 _ (ownI_keep R1 p1 oi f2).sl o2.sl ?_ ?_
        · have := scan_num_len (cntW (e.Q.filter fun r => !placeR a.id r) + 1) (e.Q.filter fun r => !placeR a.id r)
          have := cnt_le (e.Q.filter fun r => !placeR a.id r)
          have := (s.is.good e he).small
          have := List.length_filter_le (fun r => !placeR a.id r) e.Q
          omega
        simp(disch:=first|omega|(simp only[Wx];done)|(simp only[Wy];done)|(simp only[Wv];omega)|with_unfolding_all rfl)only[Wz,ptrTo,sliceTo, dec_t (show (0 : Int) = 0 from rfl)]
        have hl := JA.like.ended s.lk mv.set hik kt kr kw rfl en
        rw [hid] at hf mv
        exact hk h2 M' clock' F' _ _ _ (JA.step (BSt.left ⟨s.is, s.ids, s.wb, s.len, s.cap⟩ he hf hb mv) mv.fr R2 p2 f2 hl)
  by_cases c4 : pickM a.k 6 = 4
  · simp(disch:=first|omega|(simp only[Wx];done)|(simp only[Wy];done)|(simp only[Wv];omega)|with_unfolding_all rfl)only[Wz,ptrTo,sliceTo, c4, rs_11_4, rs_11_2, ga]
    refine abandonBk_w s.is (by omega) s.ids.sub a.id _ ?_ ?_ ?_ ?_
    · intro h1 hn l1
      have n_l1 := l1.nx
      have l_l1 := l1.lo
      have ga := (l1.get _ (by omega)).trans ga
      simp(disch:=first|omega|(simp only[Wx];done)|(simp only[Wy];done)|(simp only[Wv];omega)|with_unfolding_all rfl)only[Wz,ptrTo,sliceTo, ga]
      refine rabandonB_w (JA.bk.le l1) (JA.pl.le l1) (by omega) (by omega) (by omega) hgd hids a.id _ ?_ ?_ ?_ ?_
      · intro h2 _ l2
        simp(disch:=first|omega|(simp only[Wx];done)|(simp only[Wy];done)|(simp only[Wv];omega)|with_unfolding_all rfl)only[Wz,ptrTo,sliceTo]
        refine sameI_w [] _ _ h2 _ (Sl.nil _ _ _) (Sl.nil _ _ _) (by simp) ?_
        simp(disch:=first|omega|(simp only[Wx];done)|(simp only[Wy];done)|(simp only[Wv];omega)|with_unfolding_all rfl)only[Wz,ptrTo,sliceTo, dec_t (show (5 : Int) = 5 from rfl)]
        exact same h2 (l1.trans l2)
      · intro h2 k p0 hkK hf0; rw [hno.1 hn k hkK] at hf0; cases hf0
      · intro _ _ _ h2 i k p0 _ hik hf0; rw [hno.1 hn k (List.mem_of_getElem? hik)] at hf0; cases hf0
      · intro _ _ _ h2 i k p0 _ hik _ hf0; rw [hno.1 hn k (List.mem_of_getElem? hik)] at hf0; cases hf0
    · intro h1 e p he hf hps l1
      have n_l1 := l1.nx
      have l_l1 := l1.lo
      have ga := (l1.get _ (by omega)).trans ga
      simp(disch:=first|omega|(simp only[Wx];done)|(simp only[Wy];done)|(simp only[Wv];omega)|with_unfolding_all rfl)only[Wz,ptrTo,sliceTo, ga]
      refine rabandonB_w (JA.bk.le l1) (JA.pl.le l1) (by omega) (by omega) (by omega) hgd hids a.id _ ?_ ?_ ?_ ?_
      · intro h2 hn _; rw [hno.2 hn e he] at hf; cases hf
      · intro h2 k p0 hkK hf0 _ l2
        simp(disch:=first|omega|(simp only[Wx];done)|(simp only[Wy];done)|(simp only[Wv];omega)|with_unfolding_all rfl)only[Wz,ptrTo,sliceTo]
        refine sameI_w [] _ _ h2 _ (Sl.nil _ _ _) (Sl.nil _ _ _) (by simp) ?_
        simp(disch:=first|omega|(simp only[Wx];done)|(simp only[Wy];done)|(simp only[Wv];omega)|with_unfolding_all rfl)only[Wz,ptrTo,sliceTo, dec_t (show (7 : Int) = 7 from rfl)]
        exact same h2 (l1.trans l2)
      · intro _ _ _ h2 i k p0 _ hik hf0 hps0
        obtain ⟨_, _, _, _, rfl⟩ := hsm e k he (List.mem_of_getElem? hik) _ _ _ hf hf0
        exact absurd hps0 hps
      · intro _ _ _ h2 i k p0 _ hik _ hf0 hps0
        obtain ⟨_, _, _, _, rfl⟩ := hsm e k he (List.mem_of_getElem? hik) _ _ _ hf hf0
        exact absurd hps0 hps
    · intro h1 M' clock' F' vr e p n he hf hps hpm hid hb _ mv oi
      have n1 := mv.fr.nx
      have l1 := mv.fr.lo
      have ga := frq_keep s.is mv.fr (by omega) ga (by decide) (by decide) (by decide)
      have R1 := JA.bkR mv.fr
      have p1 := JA.plR mv.fr
      simp(disch:=first|omega|(simp only[Wx];done)|(simp only[Wy];done)|(simp only[Wv];omega)|with_unfolding_all rfl)only[Wz,ptrTo,sliceTo, ga]
      refine rabandonB_w R1 p1 (by omega) (by omega) (by omega) hgd hids a.id _ ?_ ?_ ?_ ?_
      · intro h2 hn _; rw [hno.2 hn e he] at hf; cases hf
      · intro h2 k p0 hkK hf0 hps0
        obtain ⟨_, _, _, _, rfl⟩ := hsm e k he hkK _ _ _ hf hf0
        exact absurd hps hps0
      · intro vi v' K' h2 i k p0 n0 hik hf0 _ _ hid0 hb0 en R2 p2 f2 _ o2
        obtain ⟨kt, kr, kw, kQ, rfl⟩ := hsm e k he (List.mem_of_getElem? hik) _ _ _ hf hf0
        obtain rfl : n0 = n := by omega
        rw [kQ] at en o2
        simp(disch:=first|omega|(simp only[Wx];done)|(simp only[Wy];done)|(simp only[Wv];omega)|with_unfolding_all rfl)only[Wz,ptrTo,sliceTo]
        refine sameI_w _ _ _ h2 _ (ownI_keep R1 p1 oi f2).sl o2.sl ?_ ?_
        · have := scan_num_len (cntW (e.Q.filter fun r => !placeR a.id r) + 1) (e.Q.filter fun r => !placeR a.id r)
          have := cnt_le (e.Q.filter fun r => !placeR a.id r)
          have := (s.is.good e he).small
          have := List.length_filter_le (fun r => !placeR a.id r) e.Q
          omega
        simp(disch:=first|omega|(simp only[Wx];done)|(simp only[Wy];done)|(simp only[Wv];omega)|with_unfolding_all rfl)only[Wz,ptrTo,sliceTo, dec_t (show (0 : Int) = 0 from rfl)]
        have hl := JA.like.ended s.lk mv.set hik kt kr kw rfl en
        rw [hid] at hf mv
        exact hk h2 M' clock' F' _ _ _ (JA.step (BSt.left ⟨s.is, s.ids, s.wb, s.len, s.cap⟩ he hf hb mv) mv.fr R2 p2 f2 hl)
      · intro _ _ _ h2 i k p0 _ hik _ hf0 _ hm0
        obtain ⟨_, _, _, _, rfl⟩ := hsm e k he (List.mem_of_getElem? hik) _ _ _ hf hf0
        exact absurd hpm hm0
    · intro h1 M' clock' vr e p i he hi hf hps hpm mv oi
      have n1 := mv.fr.nx
      have l1 := mv.fr.lo
      have ga := frq_keep s.is mv.fr (by omega) ga (by decide) (by decide) (by decide)
      have R1 := JA.bkR mv.fr
      have p1 := JA.plR mv.fr
      simp(disch:=first|omega|(simp only[Wx];done)|(simp only[Wy];done)|(simp only[Wv];omega)|with_unfolding_all rfl)only[Wz,ptrTo,sliceTo, ga]
      refine rabandonB_w R1 p1 (by omega) (by omega) (by omega) hgd hids a.id _ ?_ ?_ ?_ ?_
      · intro h2 hn _; rw [hno.2 hn e he] at hf; cases hf
      · intro h2 k p0 hkK hf0 hps0
        obtain ⟨_, _, _, _, rfl⟩ := hsm e k he hkK _ _ _ hf hf0
        exact absurd hps hps0
      · intro _ _ _ h2 i k p0 _ hik hf0 _ hm0
        obtain ⟨_, _, _, _, rfl⟩ := hsm e k he (List.mem_of_getElem? hik) _ _ _ hf hf0
        exact absurd hm0 hpm
      · intro vi v' K' h2 i2 k p0 j hik hj hf0 _ _ en R2 p2 f2 _ o2
        obtain ⟨kt, kr, kw, kQ, rfl⟩ := hsm e k he (List.mem_of_getElem? hik) _ _ _ hf hf0
        rw [kQ] at hj
        have hij := at_id (s.is.good e he).vq hi hj rfl
        subst hij
        rw [kQ] at en o2
        simp(disch:=first|omega|(simp only[Wx];done)|(simp only[Wy];done)|(simp only[Wv];omega)|with_unfolding_all rfl)only[Wz,ptrTo,sliceTo]
        refine sameI_w _ _ _ h2 _ (ownI_keep R1 p1 oi f2).sl o2.sl ?_ ?_
        · have := scan_num_len (cntW (e.Q.set i (backR p0)) + 1) (e.Q.set i (backR p0))
          have := cnt_le (e.Q.set i (backR p0))
          have := (s.is.good e he).small
          have : (e.Q.set i (backR p0)).length = e.Q.length := List.length_set ..
          omega
        simp(disch:=first|omega|(simp only[Wx];done)|(simp only[Wy];done)|(simp only[Wv];omega)|with_unfolding_all rfl)only[Wz,ptrTo,sliceTo, dec_t (show (0 : Int) = 0 from rfl)]
        have hl := JA.like.ended s.lk mv.set hik kt kr kw rfl en
        exact hk h2 M' clock' F B _ _ (JA.step (BSt.same ⟨s.is, s.ids, s.wb, s.len, s.cap⟩ he mv (map_set_same hi rfl) (by omega)) mv.fr R2 p2 f2 hl)
  by_cases c5 : pickM a.k 6 = 5
  · simp(disch:=first|omega|(simp only[Wx];done)|(simp only[Wy];done)|(simp only[Wv];omega)|with_unfolding_all rfl)only[Wz,ptrTo,sliceTo, c5, rs_11_4, rs_11_0, ga]
    refine handBk_w s.is (by omega) a.id a.x _ ?_ ?_ ?_ ?_
    · intro h1 hn l1
      have n_l1 := l1.nx
      have l_l1 := l1.lo
      have ga := (l1.get _ (by omega)).trans ga
      simp(disch:=first|omega|(simp only[Wx];done)|(simp only[Wy];done)|(simp only[Wv];omega)|with_unfolding_all rfl)only[Wz,ptrTo,sliceTo, ga]
      refine rhandB_w (JA.bk.le l1) (JA.pl.le l1) (by omega) (by omega) (by omega) hgd a.id a.x _ ?_ ?_ ?_ ?_
      · intro h2 _ l2
        simp(disch:=first|omega|(simp only[Wx];done)|(simp only[Wy];done)|(simp only[Wv];omega)|with_unfolding_all rfl)only[Wz,ptrTo,sliceTo, dec_t (show (5 : Int) = 5 from rfl)]
        exact same h2 (l1.trans l2)
      · intro h2 k p0 hkK hf0; rw [hno.1 hn k hkK] at hf0; cases hf0
      · intro h2 k p0 hkK hf0; rw [hno.1 hn k hkK] at hf0; cases hf0
      · intro _ h2 i k p0 _ hik _ hf0; rw [hno.1 hn k (List.mem_of_getElem? hik)] at hf0; cases hf0
    · intro h1 e p he hf hx l1
      have n_l1 := l1.nx
      have l_l1 := l1.lo
      have ga := (l1.get _ (by omega)).trans ga
      simp(disch:=first|omega|(simp only[Wx];done)|(simp only[Wy];done)|(simp only[Wv];omega)|with_unfolding_all rfl)only[Wz,ptrTo,sliceTo, ga]
      refine rhandB_w (JA.bk.le l1) (JA.pl.le l1) (by omega) (by omega) (by omega) hgd a.id a.x _ ?_ ?_ ?_ ?_
      · intro h2 hn _; rw [hno.2 hn e he] at hf; cases hf
      · intro h2 k p0 hkK hf0 _ l2
        simp(disch:=first|omega|(simp only[Wx];done)|(simp only[Wy];done)|(simp only[Wv];omega)|with_unfolding_all rfl)only[Wz,ptrTo,sliceTo, dec_t (show (4 : Int) = 4 from rfl)]
        exact same h2 (l1.trans l2)
      · intro h2 k p0 hkK hf0 hx0
        obtain ⟨_, _, _, kQ, rfl⟩ := hsm e k he hkK _ _ _ hf hf0
        obtain ⟨o, ho, h3, h4⟩ := hx
        exact absurd h4 (hx0 o (by rw [kQ]; exact ho) h3)
      · intro _ h2 i k p0 _ hik _ hf0 hx0
        obtain ⟨_, _, _, kQ, rfl⟩ := hsm e k he (List.mem_of_getElem? hik) _ _ _ hf hf0
        obtain ⟨o, ho, h3, h4⟩ := hx
        exact absurd h4 (hx0 o (by rw [kQ]; exact ho) h3)
    · intro h1 e p he hf hx hps l1
      have n_l1 := l1.nx
      have l_l1 := l1.lo
      have ga := (l1.get _ (by omega)).trans ga
      simp(disch:=first|omega|(simp only[Wx];done)|(simp only[Wy];done)|(simp only[Wv];omega)|with_unfolding_all rfl)only[Wz,ptrTo,sliceTo, ga]
      refine rhandB_w (JA.bk.le l1) (JA.pl.le l1) (by omega) (by omega) (by omega) hgd a.id a.x _ ?_ ?_ ?_ ?_
      · intro h2 hn _; rw [hno.2 hn e he] at hf; cases hf
      · intro h2 k p0 hkK hf0 hx0
        obtain ⟨_, _, _, kQ, rfl⟩ := hsm e k he hkK _ _ _ hf hf0
        obtain ⟨o, ho, h3, h4⟩ := hx0
        exact absurd h4 (hx o (by rw [← kQ]; exact ho) h3)
      · intro h2 k p0 hkK hf0 _ _ l2
        simp(disch:=first|omega|(simp only[Wx];done)|(simp only[Wy];done)|(simp only[Wv];omega)|with_unfolding_all rfl)only[Wz,ptrTo,sliceTo, dec_t (show (7 : Int) = 7 from rfl)]
        exact same h2 (l1.trans l2)
      · intro _ h2 i k p0 _ hik _ hf0 _ hps0
        obtain ⟨_, _, _, kQ, rfl⟩ := hsm e k he (List.mem_of_getElem? hik) _ _ _ hf hf0
        exact absurd hps hps0
    · intro h1 M' clock' e p i he hi hf hx hps mv
      have n1 := mv.fr.nx
      have l1 := mv.fr.lo
      have ga := frq_keep s.is mv.fr (by omega) ga (by decide) (by decide) (by decide)
      have R1 := JA.bkR mv.fr
      have p1 := JA.plR mv.fr
      simp(disch:=first|omega|(simp only[Wx];done)|(simp only[Wy];done)|(simp only[Wv];omega)|with_unfolding_all rfl)only[Wz,ptrTo,sliceTo, ga]
      refine rhandB_w R1 p1 (by omega) (by omega) (by omega) hgd a.id a.x _ ?_ ?_ ?_ ?_
      · intro h2 hn _; rw [hno.2 hn e he] at hf; cases hf
      · intro h2 k p0 hkK hf0 hx0
        obtain ⟨_, _, _, kQ, rfl⟩ := hsm e k he hkK _ _ _ hf hf0
        obtain ⟨o, ho, h3, h4⟩ := hx0
        exact absurd h4 (hx o (by rw [← kQ]; exact ho) h3)
      · intro h2 k p0 hkK hf0 _ hps0
        obtain ⟨_, _, _, kQ, rfl⟩ := hsm e k he hkK _ _ _ hf hf0
        exact absurd hps0 hps
      · intro q' h2 i2 k p0 j hik hj hf0 _ _ R2 p2 f2
        obtain ⟨kt, kr, kw, kQ, rfl⟩ := hsm e k he (List.mem_of_getElem? hik) _ _ _ hf hf0
        rw [kQ] at hj
        have hij := at_id (s.is.good e he).vq hi hj rfl
        subst hij
        rw [kQ] at R2
        simp(disch:=first|omega|(simp only[Wx];done)|(simp only[Wy];done)|(simp only[Wv];omega)|with_unfolding_all rfl)only[Wz,ptrTo,sliceTo, dec_t (show (0 : Int) = 0 from rfl)]
        refine hk h2 M' clock' F B _ _ (JA.step (BSt.same ⟨s.is, s.ids, s.wb, s.len, s.cap⟩ he mv (map_set_same hi rfl) (by omega)) mv.fr R2 p2 f2 ?_)
        exact JA.like.putAt s.lk mv.set (hand_stuck hi a.x (s.is.good e he).stuck) (set_nil hi) hik kt kr ⟨rfl, rfl, kw, rfl⟩
  · simp(disch:=first|omega|(simp only[Wx];done)|(simp only[Wy];done)|(simp only[Wv];omega)|with_unfolding_all rfl)only[Wz,ptrTo,sliceTo, dec_f c2, dec_f c3, dec_f c4, dec_f c5, rs_11_4, rs_11_1, ga]
    have hFl := lent_len s.is.pool.ok
    have hnm := JA.like.names s.lk (t := a.t) (r := a.r)
    have hxx : (∀ e ∈ M, a.t = e.t → a.r = e.r → ∀ p ∈ e.Q, p.x ≠ a.x) ↔ ∀ k ∈ K, a.t = k.t → a.r = k.r → ∀ p ∈ k.Q, p.x ≠ a.x := by
      constructor
      · intro hx k hkK h1 h2 p hp
        obtain ⟨e, he, q1, q2, q3, q4⟩ := JA.like.each k hkK
        exact hx e he (h1.trans q1) (h2.trans q2) p (by rw [← q4]; exact hp)
      · intro hx e he h1 h2 p hp
        obtain ⟨k, hkK, q1, q2, q3, q4⟩ := JA.like.of_mem s.is.ok he
        exact hx k hkK (h1.trans q1.symm) (h2.trans q2.symm) p (by rw [q4]; exact hp)
    refine askBk_w s.is (by omega) s.ids.sub N hNN s.wb a.t a.r a.x a.m _ ?_ ?_ ?_ ?_
    · intro h1 am l1
      have n_l1 := l1.nx
      have l_l1 := l1.lo
      have ga := (l1.get _ (by omega)).trans ga
      simp(disch:=first|omega|(simp only[Wx];done)|(simp only[Wy];done)|(simp only[Wv];omega)|with_unfolding_all rfl)only[Wz,ptrTo,sliceTo, ga]
      refine raskB_w (JA.bk.le l1) (JA.pl.le l1) (by omega) (by omega) (by omega) hgd hsrt hwb hids a.t a.r a.x a.m _ ?_ ?_ ?_ ?_ ?_
      · intro h2 _ l2
        simp(disch:=first|omega|(simp only[Wx];done)|(simp only[Wy];done)|(simp only[Wv];omega)|with_unfolding_all rfl)only[Wz,ptrTo,sliceTo, eq39, dec_t (show false = false from rfl), dec_t (show (0 : Int) = 0 from rfl), dec_t (show (2 : Int) = 2 from rfl)]
        exact same h2 (l1.trans l2)
      · intro h2 _ _ am2; rw [am] at am2; cases am2
      · intro h2 am2; rw [am] at am2; cases am2
      · intro _ _ _ _ _ h2 am2; rw [am] at am2; cases am2
      · intro _ _ _ _ h2 am2; rw [am] at am2; cases am2
    · intro h1 e p am he ht hr hp hx l1
      have n_l1 := l1.nx
      have l_l1 := l1.lo
      have ga := (l1.get _ (by omega)).trans ga
      simp(disch:=first|omega|(simp only[Wx];done)|(simp only[Wy];done)|(simp only[Wv];omega)|with_unfolding_all rfl)only[Wz,ptrTo,sliceTo, ga]
      have bad : ¬ ∀ k ∈ K, a.t = k.t → a.r = k.r → ∀ p ∈ k.Q, p.x ≠ a.x := fun hn => hxx.2 hn e he ht hr p hp hx
      refine raskB_w (JA.bk.le l1) (JA.pl.le l1) (by omega) (by omega) (by omega) hgd hsrt hwb hids a.t a.r a.x a.m _ ?_ ?_ ?_ ?_ ?_
      · intro h2 am2; rw [am] at am2; cases am2
      · intro h2 _ _ _ _ _ _ _ _ l2
        simp(disch:=first|omega|(simp only[Wx];done)|(simp only[Wy];done)|(simp only[Wv];omega)|with_unfolding_all rfl)only[Wz,ptrTo,sliceTo, eq39, dec_t (show false = false from rfl), dec_t (show (0 : Int) = 0 from rfl), dec_t (show (4 : Int) = 4 from rfl)]
        exact same h2 (l1.trans l2)
      · intro h2 _ hn; exact absurd hn bad
      · intro _ _ _ _ _ h2 _ hn; exact absurd hn bad
      · intro _ _ _ _ h2 _ hn; exact absurd ⟨ht, hr⟩ (hnm.2 hn e he)
    · intro h1 am hx hfull l1
      have n_l1 := l1.nx
      have l_l1 := l1.lo
      have ga := (l1.get _ (by omega)).trans ga
      simp(disch:=first|omega|(simp only[Wx];done)|(simp only[Wy];done)|(simp only[Wv];omega)|with_unfolding_all rfl)only[Wz,ptrTo,sliceTo, ga]
      refine raskB_w (JA.bk.le l1) (JA.pl.le l1) (by omega) (by omega) (by omega) hgd hsrt hwb hids a.t a.r a.x a.m _ ?_ ?_ ?_ ?_ ?_
      · intro h2 am2; rw [am] at am2; cases am2
      · intro h2 k p _ hkK ht hr hp hpx; exact absurd hpx (hxx.1 hx k hkK ht hr p hp)
      · intro h2 _ _ _ l2
        simp(disch:=first|omega|(simp only[Wx];done)|(simp only[Wy];done)|(simp only[Wv];omega)|with_unfolding_all rfl)only[Wz,ptrTo,sliceTo, eq39, dec_t (show false = false from rfl), dec_t (show (0 : Int) = 0 from rfl), dec_t (show (8 : Int) = 8 from rfl)]
        exact same h2 (l1.trans l2)
      · intro n i k _ _ h2 _ _ hb _ hik ht hr
        exfalso
        rcases hfull with h0 | ⟨h0, _⟩
        · have := (s.is.pool.ok.mem n).2 hb
          rw [h0] at this; nomatch this
        · exact hnm.1 h0 k (List.mem_of_getElem? hik) ⟨ht.symm, hr.symm⟩
      · intro n i _ _ h2 _ hno2 hlt hb
        exfalso
        rcases hfull with h0 | ⟨_, h0⟩
        · have := (s.is.pool.ok.mem n).2 hb
          rw [h0] at this; nomatch this
        · omega
    · intro M' clock' F' h1 n g am hx ak
      have n1 := ak.fr.nx
      have l1 := ak.fr.lo
      have ga := frq_keep s.is ak.fr (by omega) ga (by decide) (by decide) (by decide)
      have R1 := JA.bkR ak.fr
      have p1 := JA.plR ak.fr
      have hFp := ak.free.length_eq
      rw [List.length_cons] at hFp
      simp(disch:=first|omega|(simp only[Wx];done)|(simp only[Wy];done)|(simp only[Wv];omega)|with_unfolding_all rfl)only[Wz,ptrTo,sliceTo, ga]
      refine raskB_w R1 p1 (by omega) (by omega) (by omega) hgd hsrt hwb hids a.t a.r a.x a.m _ ?_ ?_ ?_ ?_ ?_
      · intro h2 am2; rw [am] at am2; cases am2
      · intro h2 k p _ hkK ht hr hp hpx; exact absurd hpx (hxx.1 hx k hkK ht hr p hp)
      · intro h2 _ _ hfull
        exfalso
        rcases hfull with h0 | ⟨h0, h3⟩
        · omega
        · obtain ⟨Q, w, hold, _⟩ := ak.set
          rcases hold with ⟨e, he, q1, q2, _, _⟩ | ⟨_, q1, _, _⟩
          · exact hnm.2 h0 e he ⟨q1.symm, q2.symm⟩
          · omega
      · intro n2 i k q' v' h2 _ _ hb hlst hik ht hr R2 p2 f2 _
        obtain rfl := least_eq hb hlst ak.old ak.least
        obtain ⟨eg, hl⟩ := JA.like.asked s.lk am ak hik ht hr
        subst eg
        simp(disch:=first|omega|(simp only[Wx];done)|(simp only[Wy];done)|(simp only[Wv];omega)|with_unfolding_all rfl)only[Wz,ptrTo,sliceTo, eq39, dec_t (show (n2 : Int) = (n2 : Int) from rfl), dec_t (show (askR k.Q k.w n2 a.x a.m).2.2 = (askR k.Q k.w n2 a.x a.m).2.2 from rfl), dec_t (show (0 : Int) = 0 from rfl)]
        exact hk h2 M' clock' F' _ _ _ (JA.step (BSt.asked ⟨s.is, s.ids, s.wb, s.len, s.cap⟩ ak) ak.fr R2 p2 f2 (hl _ ⟨rfl, rfl, rfl, rfl⟩))
      · intro n2 i q' v' h2 _ hno2 hlt hb hlst hb1 hb2 R2 p2 f2 _
        obtain rfl := least_eq hb hlst ak.old ak.least
        obtain ⟨eg, hl⟩ := JA.like.askedN s.lk am ak hno2 hb1 hb2
        subst eg
        simp(disch:=first|omega|(simp only[Wx];done)|(simp only[Wy];done)|(simp only[Wv];omega)|with_unfolding_all rfl)only[Wz,ptrTo,sliceTo, eq39, dec_t (show (n2 : Int) = (n2 : Int) from rfl), dec_t (show (askR [] 0 n2 a.x a.m).2.2 = (askR [] 0 n2 a.x a.m).2.2 from rfl), dec_t (show (0 : Int) = 0 from rfl)]
        exact hk h2 M' clock' F' _ _ _ (JA.step (BSt.asked ⟨s.is, s.ids, s.wb, s.len, s.cap⟩ ak) ak.fr R2 p2 f2 (hl _ ⟨rfl, rfl, rfl, rfl⟩))
end
end Go.Proofs

namespace Go.Proofs
open Go.Vai Go.Clashes
def GetIs (M : List HE) (d t r : Int) (p : R5) (b : Bool) : Prop := (b = true ∧ ∃ e ∈ M, findQ e.Q d = some p ∧ e.t = t ∧ e.r = r) ∨ (b = false ∧ (∀ e ∈ M, findQ e.Q d = none) ∧ t = 0 ∧ r = 0 ∧ p = ⟨0, 0, 0, 0, 0⟩)
def FindIs (M : List HE) (t r x id : Int) (b : Bool) : Prop := (b = true ∧ ∃ e ∈ M, t = e.t ∧ r = e.r ∧ ∃ p ∈ e.Q, p.x = x ∧ p.id = id) ∨ (b = false ∧ id = 0 ∧ ∀ e ∈ M, t = e.t → r = e.r → ∀ p ∈ e.Q, p.x ≠ x)
theorem getG_w {h : Heap} {bb bm bp bl most : Nat} {M : List HE} {clock : Nat} {F : List Int} {B : List Bool} (s : BucketIs h bb bm bp bl most M clock F B) (hlo : h.lo ≤ h.nx) (d : Int) (κ : Value → Heap → Prop)
    (hk : ∀ h' t r p b, GetIs M d t r p b → Le h h' → κ (.tuple ⟨[nmV t r, aggR p, .bool b]⟩) h') :
    CallW Tryz.prog 19 [.pointer (some ⟨bb, 0, none⟩), .int .i64 d] h κ := by
  refine getBk_w s hlo d _ ?_ ?_
  · intro h' hn l; exact hk h' 0 0 _ false (.inr ⟨rfl, hn, rfl, rfl, rfl⟩) l
  · intro h' e p he hf l; exact hk h' _ _ p true (.inl ⟨rfl, e, he, hf, rfl, rfl⟩) l
theorem findG_w {h : Heap} {bb bm bp bl most : Nat} {M : List HE} {clock : Nat} {F : List Int} {B : List Bool} (s : BucketIs h bb bm bp bl most M clock F B) (hlo : h.lo ≤ h.nx) (t r x : Int) (κ : Value → Heap → Prop)
    (hk : ∀ h' id b, FindIs M t r x id b → Le h h' → κ (.tuple ⟨[.int .i64 id, .bool b]⟩) h') :
    CallW Tryz.prog 21 [.pointer (some ⟨bb, 0, none⟩), nmV t r, .int .i64 x] h κ := by
  refine findBk_w s hlo t r x _ ?_ ?_
  · intro h' hn l; exact hk h' 0 false (.inr ⟨rfl, rfl, hn⟩) l
  · intro h' e p he ht hr hp hx l; exact hk h' _ true (.inl ⟨rfl, e, he, ht, hr, p, hp, hx, rfl⟩) l
section
variable {a0 h : Heap} {bb bm bp bl most cap N : Nat} {M : List HE} {clock : Nat} {F : List Int} {B : List Bool} {rb rp rl : Nat} {v : Value} {K : List HE}
theorem rgetG_w {most : Nat} (R : RBk a0 h rb rp most v K) (hlo : h.lo ≤ h.nx) (hl : K.length ≤ 1000) (gd : ∀ k ∈ K, HeadOk k) (d : Int) (κ : Value → Heap → Prop)
    (hk : ∀ h' t r p b, GetIs K d t r p b → Le h h' → κ (.tuple ⟨[nmV t r, aggR p, .bool b]⟩) h') :
    CallW Tryz.prog 20 [.pointer (some ⟨rb, 0, none⟩), .int .i64 d] h κ := by
  refine rgetB_w R hlo hl gd d _ ?_ ?_
  · intro h' hn l; exact hk h' 0 0 _ false (.inr ⟨rfl, hn, rfl, rfl, rfl⟩) l
  · intro h' e p he hf l; exact hk h' _ _ p true (.inl ⟨rfl, e, he, hf, rfl, rfl⟩) l
theorem rfindG_w {most : Nat} (R : RBk a0 h rb rp most v K) (hlo : h.lo ≤ h.nx) (hl : K.length ≤ 1000) (gd : ∀ k ∈ K, HeadOk k) (srt : (K.map nmOf).Pairwise ltN) (t r x : Int) (κ : Value → Heap → Prop)
    (hk : ∀ h' id b, FindIs K t r x id b → Le h h' → κ (.tuple ⟨[.int .i64 id, .bool b]⟩) h') :
    CallW Tryz.prog 22 [.pointer (some ⟨rb, 0, none⟩), nmV t r, .int .i64 x] h κ := by
  refine rfindB_w R hlo hl gd srt t r x _ ?_ ?_
  · intro h' hn l; exact hk h' 0 false (.inr ⟨rfl, rfl, hn⟩) l
  · intro h' e p he ht hr hp hx l; exact hk h' _ true (.inl ⟨rfl, e, he, ht, hr, p, hp, hx, rfl⟩) l
theorem Like.get (s : BLk h bb bm bp bl most M clock F B) (l : Like M K) {d t r t' r' : Int} {p p' : R5} {b b' : Bool} (g : GetIs M d t r p b) (g' : GetIs K d t' r' p' b') : t' = t ∧ r' = r ∧ p' = p ∧ b' = b := by
  rcases g with ⟨rfl, e, he, hf, rfl, rfl⟩ | ⟨rfl, hn, rfl, rfl, rfl⟩
  · rcases g' with ⟨rfl, k, hk, hf', rfl, rfl⟩ | ⟨rfl, hn, _⟩
    · obtain ⟨h1, h2, _, _, h3⟩ := l.same s he hk hf hf'
      exact ⟨h1, h2, h3, rfl⟩
    · rw [(l.none s).2 hn e he] at hf; cases hf
  · rcases g' with ⟨rfl, k, hk, hf', rfl, rfl⟩ | ⟨rfl, _, rfl, rfl, rfl⟩
    · rw [(l.none s).1 hn k hk] at hf'; cases hf'
    · exact ⟨rfl, rfl, rfl, rfl⟩
theorem at_x {Q : List R5} {W : Int} (v : VQ Q W) {p q : R5} (hp : p ∈ Q) (hq : q ∈ Q) (h : p.x = q.x) : p = q := by
  obtain ⟨i, hi⟩ := List.getElem?_of_mem hp
  obtain ⟨j, hj⟩ := List.getElem?_of_mem hq
  have G := pw_get.1 v.pair
  rcases Nat.lt_trichotomy i j with hl | hl | hl
  · exact absurd h (G i j p q hl hi hj).x
  · subst hl; rw [hi] at hj; exact Option.some.inj hj
  · exact absurd h.symm (G j i q p hl hj hi).x
theorem Like.find (s : BLk h bb bm bp bl most M clock F B) (l : Like M K) {t r x id id' : Int} {b b' : Bool} (g : FindIs M t r x id b) (g' : FindIs K t r x id' b') : id' = id ∧ b' = b := by
  rcases g with ⟨rfl, e, he, ht, hr, p, hp, hx, rfl⟩ | ⟨rfl, rfl, hn⟩
  · rcases g' with ⟨rfl, k, hk, ht', hr', p', hp', hx', rfl⟩ | ⟨rfl, rfl, hn⟩
    · obtain ⟨e2, he2, h1, h2, h3, h4⟩ := l.each k hk
      have := s.is.ok.uniq he2 he (by rw [← h1, ← ht', ht]) (by rw [← h2, ← hr', hr])
      subst this
      rw [h4] at hp'
      exact ⟨by rw [at_x (s.is.good _ he).vq hp' hp (hx'.trans hx.symm)], rfl⟩
    · obtain ⟨k, hk, h1, h2, h3, h4⟩ := l.of_mem s.is.ok he
      exact absurd hx (hn k hk (ht.trans h1.symm) (hr.trans h2.symm) p (by rw [h4]; exact hp))
  · rcases g' with ⟨rfl, k, hk, ht', hr', p', hp', hx', rfl⟩ | ⟨rfl, rfl, hn'⟩
    · obtain ⟨e2, he2, h1, h2, h3, h4⟩ := l.each k hk
      rw [h4] at hp'
      exact absurd hx' (hn e2 he2 (ht'.trans h1) (hr'.trans h2) p' hp')
    · exact ⟨rfl, rfl⟩
theorem told64_w (s : BSt h bb bm bp bl most cap N M clock F B) (hlo : h.lo ≤ h.nx) (hm : most ≤ 64) (κ : Value → Heap → Prop)
    (hk : ∀ v h' K, Told h' M v K → Le h h' → κ v h') : CallW Tryz.prog 13 [.pointer (some ⟨bb, 0, none⟩)] h κ := by
  have hl := s.len
  refine headsBk_w s.is hlo (by omega) _ ?_
  intro v h' K h1 h2 h3 h4 h5 le
  exact hk v h' K ⟨h1, h2, h3, h4, h5.sl⟩ le
theorem rtold_w (J : Joint a0 h bb bm bp bl most cap N M clock F B rb rp rl v K) (hlo : h.lo ≤ h.nx) (hm : most ≤ 64) (κ : Value → Heap → Prop)
    (hk : ∀ v h' K, Told h' M v K → Le h h' → κ v h') : CallW Tryz.prog 14 [.pointer (some ⟨rb, 0, none⟩)] h κ := by
  have hl := J.st.len
  have hl2 := J.like.len
  refine rheads_w J.bk hlo (by omega) (fun k hk => by have := (J.good k hk).small; omega) _ ?_
  intro v1 h' K' hK hq ho le
  have hnm : K'.map nmOf = K.map nmOf := by
    have := congrArg (List.map fun x : Int × Int × Int × List R5 => (x.1, x.2.1)) hK
    rw [List.map_map, List.map_map] at this
    exact this
  refine hk v1 h' K' ⟨?_, by rw [hnm]; exact J.like.perm, by rw [hnm]; exact J.like.srt, fun k hk' => ⟨?_, hq k hk'⟩, ho.sl⟩ le
  · have := congrArg List.length hK
    simp only [List.length_map] at this
    omega
  · have : keyH k ∈ K.map keyH := by rw [← hK]; exact List.mem_map.2 ⟨k, hk', rfl⟩
    obtain ⟨k2, hk2, e⟩ := List.mem_map.1 this
    obtain ⟨e2, he2, q1, q2, q3, q4⟩ := J.like.each k2 hk2
    obtain ⟨g1, g2, g3, g4⟩ := keyH_same e
    exact ⟨e2, he2, g1.symm.trans q1, g2.symm.trans q2, g3.symm.trans q3, g4.symm.trans q4⟩
theorem sameTold_w (s : BSt h bb bm bp bl most cap N M clock F B) (hm : most ≤ 64) {v v' : Value} {K K' : List HE} (t : Told h M v K) (t' : Told h M v' K') (κ : Value → Heap → Prop) (hk : κ (.bool true) h) :
    CallW Tryz.prog 12 [v, v'] h κ := by
  have hl := s.len
  have l1 := t.len
  have l2 := t'.len
  refine sameH_w K K' v v' h _ t.sl t'.sl (by omega) (by omega) (fun i a b ha hb => ?_) hk
  obtain ⟨⟨x, hx, sx⟩, qa⟩ := t.each a (List.mem_of_getElem? ha)
  have qb := (t'.each b (List.mem_of_getElem? hb)).2
  have := (s.is.good x hx).small
  exact ⟨t.same s.is.ok t' i a b ha hb, qa.1, qb.1, by rw [sx.2.2.2]; omega⟩
end
theorem neq39 {β : Type} {fl : β} (cn : Bool) (a b : Bool) (h : Heap) (κ : Value → Heap → β) : binB fl Tryz.prog .neq 4 cn false (.bool a) (.bool b) h κ = κ (.bool (!decide (a = b))) h := by
  have und : Tryz.prog.underlying 4 = some .bool := by kernel_rfl
  have e1 : eqB Tryz.prog h 100 4 (.bool a) (.bool b) = some (decide (a = b)) := by
    unfold eqB
    simp only [und]
    cases a <;> cases b <;> exact id rfl
  simp only [binB, e1, fbK_eq]
theorem actLd {h : Heap} {v : Value} {L : List Act} (hs : Sl encA h v L) (i : Nat) {q : Act} (hq : L[i]? = some q) :
    ∃ b o, b < h.nx ∧ (∀ (β : Type) (fl : β) (h' : Heap) (κ : Value → Heap → β), indexAddrS fl 6 v (.int .i64 (i : Int)) h' κ = κ (.pointer (some ⟨b, o, none⟩)) h') ∧
      ∀ h', Le h h' → ((∀ (β : Type) (fl : β) (κ : List Value → β), ldA fl (h'.bl.get b) o 6 κ = κ (encA q)) ∧
      (∀ (β : Type) (fl : β) (κ : Value → β), ldO fl (h'.bl.get b) (o + 3) κ = κ (.int .i64 q.id)) ∧
      (∀ (β : Type) (fl : β) (κ : List Value → β), ldA fl (h'.bl.get b) (o + 1) 2 κ = κ [.int .i64 q.t, .int .i64 q.r]) ∧
      (∀ (β : Type) (fl : β) (κ : Value → β), ldO fl (h'.bl.get b) (o + 4) κ = κ (.int .i64 q.x))) := by
  obtain ⟨b, o, h1, h2, h3, hh⟩ := hs.ld encA_len i hq
  refine ⟨b, o, h1, h2, fun h' le => ?_⟩
  rw [← le.get b h1] at hh
  refine ⟨fun β fl κ => ldA_has hh 6 κ rfl, fun β fl κ => ldO_has (fl := fl) hh 3 κ (by show 3 < 6; omega), fun β fl κ => ?_, fun β fl κ => ldO_has (fl := fl) hh 4 κ (by show 4 < 6; omega)⟩
  have := hh.sub 1 2 (by show 1 + 2 ≤ 6; omega)
  exact ldA_has this 2 κ rfl
theorem bucketNo_w (heads : Int) (bp : Nat) (h : Heap) (κ : Value → Heap → Prop) (hh : heads < 1 ∨ 64 < heads) (hk : κ (.tuple ⟨[.pointer none, .int .i64 2]⟩) h) :
    CallW Tryz.prog 33 [.int .i64 heads, .pointer (some ⟨bp, 0, none⟩)] h κ := by
  refine callW_of mixed ?_
  rw [rs_33]
  by_cases h1 : heads < 1
  · simp(disch:=first|omega|(simp only[Wx];done)|(simp only[Wy];done)|(simp only[Wv];omega)|with_unfolding_all rfl)only[Wz,ptrTo,sliceTo, dec_t h1]
    exact hk
  · simp(disch:=first|omega|(simp only[Wx];done)|(simp only[Wy];done)|(simp only[Wv];omega)|with_unfolding_all rfl)only[Wz,ptrTo,sliceTo, dec_f h1, dec_t (show 64 < heads by omega)]
    exact hk
theorem madeNo_w (heads : Int) (most : Nat) (h : Heap) (κ : Value → Heap → Prop) (hh : heads < 1 ∨ 64 < heads) (hm : most ≤ 128) (hlo : h.lo ≤ h.nx)
    (hk : ∀ h' bp, Le h h' → κ (.tuple ⟨[.pointer none, .pointer (some ⟨bp, 0, none⟩), .bool false]⟩) h') :
    CallW Tryz.prog 8 [.int .i64 heads, .int .i64 (most : Int)] h κ := by
  refine callW_of mixed ?_
  rw [rs_8]
  refine newPool_w most h _ hm hlo ?_
  intro bp bl h1 F p hne h1p h1l hF le1 _
  simp(disch:=first|omega|(simp only[Wx];done)|(simp only[Wy];done)|(simp only[Wv];omega)|with_unfolding_all rfl)only[Wz,ptrTo,sliceTo, dec_t (show (0 : Int) = 0 from rfl)]
  refine bucketNo_w heads bp h1 _ hh ?_
  simp(disch:=first|omega|(simp only[Wx];done)|(simp only[Wy];done)|(simp only[Wv];omega)|with_unfolding_all rfl)only[Wz,ptrTo,sliceTo, dec_f (show ¬ (2 : Int) = 0 by decide)]
  exact hk h1 bp le1
end Go.Proofs

namespace Go.Proofs
open Go.Vai Go.Clashes
theorem lawScript_w (a0 a1 : Int) (L : List Act) (h : Heap) (v : Value) (hv : Sl encA h v L) (hlo : h.lo ≤ h.nx) (hno : ∀ c vs t, h.bl.get c ≠ some (cellsO vs t true)) (κ : Value → Heap → Prop) (hk : ∀ h', κ (.bool true) h') :
    CallW Tryz.prog 3 [.int .i64 a0, .int .i64 a1, v] h κ := by
  obtain ⟨x, c, ev, _⟩ := (show Sl encA h v L from hv)
  refine callW_of mixed ?_
  rw [rs_3, ev]
  refine closedW mixed lives_a ?_
  by_cases h50 : L.length ≤ 50
  case neg =>
    simp(disch:=first|omega|(simp only[Wx];done)|(simp only[Wy];done)|(simp only[Wv];omega)|with_unfolding_all rfl)only[Wz,ptrTo,sliceTo, dec_t (show (50 : Int) < (L.length : Int) by omega)]
    exact hk h
  simp(disch:=first|omega|(simp only[Wx];done)|(simp only[Wy];done)|(simp only[Wv];omega)|with_unfolding_all rfl)only[Wz,ptrTo,sliceTo, lt_f (show (L.length : Int) ≤ 50 by omega), rs_3_3]
  obtain ⟨r3, r4⟩ := pickM_range (n := a1) (m := 129) (by omega)
  obtain ⟨mo, emo⟩ : ∃ n : Nat, pickM a1 129 = (n : Int) := ⟨(pickM a1 129).toNat, by omega⟩
  refine pick_w a1 129 (by omega) ?_
  rw [emo]
  by_cases hh : a0 < 1 ∨ 64 < a0
  · refine madeNo_w a0 mo h _ hh (by omega) hlo ?_
    intro h1 bp le1
    have n1 := le1.nx
    have l1 := le1.lo
    simp(disch:=first|omega|(simp only[Wx];done)|(simp only[Wy];done)|(simp only[Wv];omega)|with_unfolding_all rfl)only[Wz,ptrTo,sliceTo]
    refine rnew10_w mo h1 _ (by omega) (by omega) ?_
    intro rp rl h2 p2 _ _ le2
    have n2 := le2.nx
    have l2 := le2.lo
    simp(disch:=first|omega|(simp only[Wx];done)|(simp only[Wy];done)|(simp only[Wv];omega)|with_unfolding_all rfl)only[Wz,ptrTo,sliceTo]
    refine rnew11_w a0 rp h h2 _ (by omega) ?_ ?_
    · intro _
      simp(disch:=first|omega|(simp only[Wx];done)|(simp only[Wy];done)|(simp only[Wv];omega)|with_unfolding_all rfl)only[Wz,ptrTo,sliceTo, rs_3_2, dec_f (show ¬ (2 : Int) = 0 by decide)]
      exact hk h2
    · intro rb h' n hn hr; omega
  obtain ⟨hd, rfl⟩ : ∃ n : Nat, a0 = (n : Int) := ⟨a0.toNat, by omega⟩
  refine made_w hd mo h _ (by omega) (by omega) hlo ?_
  intro h1 bb bm bp bl F0 s0 gbb gbm gbp gbl hF0 fr0
  have n1 := fr0.nx
  have l1 := fr0.lo
  try simp(disch:=first|omega|(simp only[Wx];done)|(simp only[Wy];done)|(simp only[Wv];omega)|with_unfolding_all rfl)only[Wz,ptrTo,sliceTo]
  refine rnew10_w mo h1 _ (by omega) (by omega) ?_
  intro rp rl h2 p2 grp grl le2
  have n2 := le2.nx
  have l2 := le2.lo
  try simp(disch:=first|omega|(simp only[Wx];done)|(simp only[Wy];done)|(simp only[Wv];omega)|with_unfolding_all rfl)only[Wz,ptrTo,sliceTo]
  refine rnew11_w (hd : Int) rp h h2 _ (by omega) (fun hbad => by omega) ?_
  intro rb h3 n hn hr R3 grb le3
  obtain rfl : n = hd := by omega
  have n3 := le3.nx
  have l3 := le3.lo
  have hblt := s0.is.pool.lt
  have J3 : Joint h h3 bb bm bp bl n mo 0 [] 0 F0 (List.replicate mo false) rb rp rl (.slice none 0 0) [] :=
    ⟨(s0.le le2).le le3, R3, p2.le le3, Like.nil, by omega, ((fr0.le hno gbm gbp gbl).trans le2).trans le3, hno, gbm, gbp, gbl, by omega, by omega⟩
  simp(disch:=first|omega|(simp only[Wx];done)|(simp only[Wy];done)|(simp only[Wv];omega)|with_unfolding_all rfl)only[Wz,ptrTo,sliceTo, dec_t (show (0 : Int) = 0 from rfl)]
  refine ⟨fun m l h' => ∃ (i : Nat) (M : List HE) (clock : Nat) (F : List Int) (B : List Bool) (vk : Value) (K : List HE), slot l 122 = .int .i64 (i : Int) ∧ m = L.length - i ∧ i ≤ L.length ∧ Joint h h' bb bm bp bl n mo i M clock F B rb rp rl vk K,
    ⟨_, 0, [], 0, F0, _, _, [], rfl, rfl, by omega, J3⟩, ?_⟩
  rintro m l h4 ⟨i, M, clock, F, B, vk, K, s1, rfl, hi, J⟩
  have le4 := J.le
  have n4 := le4.nx
  have l4 := le4.lo
  by_cases hst : i < L.length
  case neg =>
    simp(disch:=first|omega|(simp only[Wx];done)|(simp only[Wy];done)|(simp only[Wv];omega)|with_unfolding_all rfl)only[Wz,ptrTo,sliceTo, s1, lt_f (show (L.length : Int) ≤ (i : Int) by omega)]
    exact hk h4
  obtain ⟨q, hq⟩ : ∃ q, L[i]? = some q := ⟨_, List.getElem?_eq_getElem hst⟩
  obtain ⟨b1, o1, hb1, hat1, hld1⟩ := actLd hv i hq
  have S4 := hld1 h4 le4
  rw [ev] at hat1
  simp(disch:=first|omega|(simp only[Wx];done)|(simp only[Wy];done)|(simp only[Wv];omega)|with_unfolding_all rfl)only[Wz,ptrTo,sliceTo, s1, lt_t (show (i : Int) < (L.length : Int) by omega), rs_3_1, hat1, S4]
  refine same_w J (by omega) (by omega) (by omega) q _ ?_
  intro h5 M' clock' F' B' v' K' J5
  have le5 := J5.le
  have n5 := le5.nx
  have l5 := le5.lo
  try simp(disch:=first|omega|(simp only[Wx];done)|(simp only[Wy];done)|(simp only[Wv];omega)|with_unfolding_all rfl)only[Wz,ptrTo,sliceTo]
  refine told64_w J5.st (by omega) (by omega) _ ?_
  intro v6 h6 K6 t6 le6
  have J6 := J5.leH le6
  have n6 := le6.nx
  have l6 := le6.lo
  try simp(disch:=first|omega|(simp only[Wx];done)|(simp only[Wy];done)|(simp only[Wv];omega)|with_unfolding_all rfl)only[Wz,ptrTo,sliceTo]
  refine rtold_w J6 (by omega) (by omega) _ ?_
  intro v7 h7 K7 t7 le7
  have J7 := J6.leH le7
  have n7 := le7.nx
  have l7 := le7.lo
  try simp(disch:=first|omega|(simp only[Wx];done)|(simp only[Wy];done)|(simp only[Wv];omega)|with_unfolding_all rfl)only[Wz,ptrTo,sliceTo]
  refine sameTold_w J7.st (by omega) (t6.le le7) t7 _ ?_
  try simp(disch:=first|omega|(simp only[Wx];done)|(simp only[Wy];done)|(simp only[Wv];omega)|with_unfolding_all rfl)only[Wz,ptrTo,sliceTo]
  refine lenBk_w J7.st.is _ ?_
  try simp(disch:=first|omega|(simp only[Wx];done)|(simp only[Wy];done)|(simp only[Wv];omega)|with_unfolding_all rfl)only[Wz,ptrTo,sliceTo]
  refine rlenB_w J7.bk _ ?_
  have hKM := J7.like.len
  simp(disch:=first|omega|(simp only[Wx];done)|(simp only[Wy];done)|(simp only[Wv];omega)|with_unfolding_all rfl)only[Wz,ptrTo,sliceTo, dec_t (show (M'.length : Int) = (K'.length : Int) by omega)]
  have hsm := J7.st.is.pool.small
  have hll := lent_len J7.st.is.pool.ok
  refine live_w bp bl F' B' h7 _ J7.st.is.pool (by omega) ?_
  try simp(disch:=first|omega|(simp only[Wx];done)|(simp only[Wy];done)|(simp only[Wv];omega)|with_unfolding_all rfl)only[Wz,ptrTo,sliceTo]
  refine rlive_w J7.pl (by omega) _ ?_
  intro h8 le8
  have J8 := J7.leH le8
  have n8 := le8.nx
  have l8 := le8.lo
  have le08 := J8.le
  have S8 := hld1 h8 le08
  simp (maxSteps := 3000000) (disch:=first|omega|(simp only[Wx];done)|(simp only[Wy];done)|(simp only[Wv];omega)|with_unfolding_all rfl)only[Wz,ptrTo,sliceTo, dec_t (show ((B'.length : Int) - F'.length) = ((lentL B').length : Int) by omega), rs_3_0, s1, hat1, S8]
  refine getG_w J8.st.is (by omega) q.id _ ?_
  intro h9 t9 r9 p9 b9 g9 le9
  have J9 := J8.leH le9
  have n9 := le9.nx
  have l9 := le9.lo
  simp (maxSteps := 3000000) (disch:=first|omega|(simp only[Wx];done)|(simp only[Wy];done)|(simp only[Wv];omega)|with_unfolding_all rfl)only[Wz,ptrTo,sliceTo, nmV, enc5]
  obtain ⟨hA, eA⟩ : ∃ hA : Heap, hA = ⟨h9.nx + 1 + 1, (((h9.bl.upd h9.nx (cellsO [.int .i64 0, .int .i64 0] 38 false)).upd (h9.nx + 1) (cellsO [.int .i64 0, .int .i64 0, .int .i64 0, .int .i64 0, .int .i64 0] 47 false)).upd h9.nx (cellsO [.int .i64 t9, .int .i64 r9] 38 false)).upd (h9.nx + 1) (cellsO [.int .i64 p9.id, .int .i64 p9.x, .int .i64 p9.m, .int .i64 p9.w, .int .i64 p9.s] 47 false), h9.lo⟩ := ⟨_, rfl⟩
  have leA : Le h9 hA := by rw [eA]; exact ((((Le.refl h9).new _).new _).set (b := h9.nx) (Nat.le_refl _) _).set (b := h9.nx + 1) (by omega) _
  have gn : hA.bl.get h9.nx = some (cellsO [.int .i64 t9, .int .i64 r9] 38 false) := by rw [eA]; exact (T.get_updne _ _ (by omega)).trans (T.get_upd_same _ _ _)
  have gr : hA.bl.get (h9.nx + 1) = some (cellsO [.int .i64 p9.id, .int .i64 p9.x, .int .i64 p9.m, .int .i64 p9.w, .int .i64 p9.s] 47 false) := by rw [eA]; exact T.get_upd_same _ _ _
  have nA : hA.nx = h9.nx + 2 := by rw [eA]
  have lA : hA.lo = h9.lo := by rw [eA]
  rw [← eA]
  clear eA
  have JA := J9.leH leA
  have SA := hld1 hA JA.le
  have S9 := hld1 h9 J9.le
  simp (maxSteps := 3000000) (disch:=first|omega|(simp only[Wx];done)|(simp only[Wy];done)|(simp only[Wv];omega)|with_unfolding_all rfl)only[Wz,ptrTo,sliceTo, S9]
  refine rgetG_w JA.bk (by omega) (by have := JA.st.len; omega) JA.good q.id _ ?_
  intro h10 t10 r10 p10 b10 g10 le10
  obtain ⟨rfl, rfl, rfl, rfl⟩ := JA.like.get JA.st.lk g9 g10
  have J10 := JA.leH le10
  have n10 := le10.nx
  have l10 := le10.lo
  have gn := (le10.get _ (by omega)).trans gn
  have gr := (le10.get _ (by omega)).trans gr
  simp (maxSteps := 3000000) (disch:=first|omega|(simp only[Wx];done)|(simp only[Wy];done)|(simp only[Wv];omega)|with_unfolding_all rfl)only[Wz,ptrTo,sliceTo, nmV, enc5]
  obtain ⟨hB, eB⟩ : ∃ hB : Heap, hB = ⟨h10.nx + 1 + 1, (((h10.bl.upd h10.nx (cellsO [.int .i64 0, .int .i64 0] 38 false)).upd (h10.nx + 1) (cellsO [.int .i64 0, .int .i64 0, .int .i64 0, .int .i64 0, .int .i64 0] 47 false)).upd h10.nx (cellsO [.int .i64 t10, .int .i64 r10] 38 false)).upd (h10.nx + 1) (cellsO [.int .i64 p10.id, .int .i64 p10.x, .int .i64 p10.m, .int .i64 p10.w, .int .i64 p10.s] 47 false), h10.lo⟩ := ⟨_, rfl⟩
  have leB : Le h10 hB := by rw [eB]; exact ((((Le.refl h10).new _).new _).set (b := h10.nx) (Nat.le_refl _) _).set (b := h10.nx + 1) (by omega) _
  have gn2 : hB.bl.get h10.nx = some (cellsO [.int .i64 t10, .int .i64 r10] 38 false) := by rw [eB]; exact (T.get_updne _ _ (by omega)).trans (T.get_upd_same _ _ _)
  have gr2 : hB.bl.get (h10.nx + 1) = some (cellsO [.int .i64 p10.id, .int .i64 p10.x, .int .i64 p10.m, .int .i64 p10.w, .int .i64 p10.s] 47 false) := by rw [eB]; exact T.get_upd_same _ _ _
  have nB : hB.nx = h10.nx + 2 := by rw [eB]
  have lB : hB.lo = h10.lo := by rw [eB]
  have gn := (leB.get _ (by omega)).trans gn
  have gr := (leB.get _ (by omega)).trans gr
  rw [← eB]
  clear eB
  have JB := J10.leH leB
  have S10 := hld1 h10 J10.le
  have SB := hld1 hB JB.le
  simp (maxSteps := 3000000) (disch:=first|omega|(simp only[Wx];done)|(simp only[Wy];done)|(simp only[Wv];omega)|with_unfolding_all rfl)only[Wz,ptrTo,sliceTo, S10, SB]
  refine findG_w JB.st.is (by omega) q.t q.r q.x _ ?_
  intro h11 id11 b11 g11 le11
  have J11 := JB.leH le11
  have n11 := le11.nx
  have l11 := le11.lo
  have S11 := hld1 h11 J11.le
  simp (maxSteps := 3000000) (disch:=first|omega|(simp only[Wx];done)|(simp only[Wy];done)|(simp only[Wv];omega)|with_unfolding_all rfl)only[Wz,ptrTo,sliceTo, S11, veq_bool]
  refine rfindG_w J11.bk (by omega) (by have := J11.st.len; have := J11.like.len; omega) J11.good J11.like.srt q.t q.r q.x _ ?_
  intro h12 id12 b12 g12 le12
  obtain ⟨rfl, rfl⟩ := J11.like.find J11.st.lk g11 g12
  have le13 := le11.trans le12
  have gn := (le13.get _ (by omega)).trans gn
  have gr := (le13.get _ (by omega)).trans gr
  have gn2 := (le13.get _ (by omega)).trans gn2
  have gr2 := (le13.get _ (by omega)).trans gr2
  simp (maxSteps := 3000000) (disch:=first|omega|(simp only[Wx];done)|(simp only[Wy];done)|(simp only[Wv];omega)|with_unfolding_all rfl)only[Wz,ptrTo,sliceTo, veq_bool, gn, gn2, gr, gr2, bin_neNs, bin_neR, neq39, dec_t (show b10 = b10 from rfl), dec_t (show b12 = b12 from rfl), dec_t (show id12 = id12 from rfl)]
  exact ⟨_, by omega, i + 1, M', clock', F', B', v', K', rfl, rfl, by omega, J11.leH le12⟩
end Go.Proofs
