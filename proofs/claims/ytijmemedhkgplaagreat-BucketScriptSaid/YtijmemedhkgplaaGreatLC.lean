/-
  PROVED HERE: a part of the proof, by a calculus of weakest conditions over an abstract heap (L10, L11, L12, L13, L14).
-/
import Derived.Test.YtijmemedhkgplaaGreatLB
set_option linter.unusedVariables false
set_option linter.unusedSimpArgs false
set_option maxRecDepth 100000
namespace Go.Proofs
open Go.Vai Go.Clashes
def NewB (h : Heap) (v v' : Value) : Prop := ∀ c, c < h.nx → BlkOf v' c → BlkOf v c
theorem NewB.refl (h : Heap) (v : Value) : NewB h v v := fun _ _ x => x
theorem NewB.up {h h1 : Heap} {v v' : Value} (n : NewB h1 v v') (hn : h.nx ≤ h1.nx) : NewB h v v' := fun c hc x => n c (by omega) x
theorem NewB.own {α : Type} {enc : α → List Value} {a h h' : Heap} {e : TypeId} {v v' : Value} {L : List α} (ho : Own enc a e h' v' L) (hn : h.nx ≤ a.nx) : NewB h v v' := fun c hc x => absurd (ho.blk x).1 (by omega)
def SB (rb : Nat) (v : Value) (c : Nat) : Prop := c = rb ∨ BlkOf v c
section
variable {a h : Heap} {rb rp rl most : Nat} {v : Value} {K : List HE}
theorem RBk.setAt (R : RBk a h rb rp most v K) {i : Nat} {k : HE} (hk : K[i]? = some k) {t r w : Int} {q : Value} {Q : List R5} (hq : OwnR a h q Q) : ∃ bo, v = .slice (some ⟨bo, 0, none⟩) K.length openCap ∧ h.bl.get bo = some (cellsO (K.flatMap encH) 56 true) ∧ bo < h.nx ∧ h.lo ≤ bo ∧ a.nx ≤ bo ∧
    over (K.flatMap encH) (i * 4) [.int .i64 t, .int .i64 r, q, .int .i64 w] = (K.set i ⟨t, r, 0, 0, q, w, Q⟩).flatMap encH ∧
    ((K.flatMap encH).length = K.length * 4 ∧ i < K.length) ∧
    RBk a ⟨h.nx, h.bl.upd bo (cellsO ((K.set i ⟨t, r, 0, 0, q, w, Q⟩).flatMap encH) 56 true), h.lo⟩ rb rp most v (K.set i ⟨t, r, 0, 0, q, w, Q⟩) ∧
    FrK (SB rb v) h ⟨h.nx, h.bl.upd bo (cellsO ((K.set i ⟨t, r, 0, 0, q, w, Q⟩).flatMap encH) 56 true), h.lo⟩ := by
  have hil := (List.getElem?_eq_some_iff.1 hk).1
  have c1 := R.cell
  rcases R.own with ⟨rfl, _⟩ | ⟨bo, rfl, k1, k2, k3, k4⟩
  · simp at hil
  have hne : bo ≠ rb := by rintro rfl; rw [k4] at c1; exact cells_op c1.symm
  have hsl : slV q = q := slV_sl hq.sl
  have hov := over_field (enc := encH) (p' := ⟨t, r, 0, 0, q, w, Q⟩) (ws := [.int .i64 t, .int .i64 r, q, .int .i64 w]) (j := 0) encH_len hk (by show 0 + 4 ≤ 4; omega) (by
    rw [over_all (encH k) [.int .i64 t, .int .i64 r, q, .int .i64 w] rfl]
    show _ = [.int .i64 t, .int .i64 r, slV q, .int .i64 w]
    rw [hsl])
  rw [Nat.add_zero] at hov
  refine ⟨bo, rfl, k4, k2, k3, k1, hov, ⟨flat_length encH_len K, hil⟩, ⟨R.lt, R.lo, (T.get_updne _ _ hne).trans R.cell, .inr ⟨bo, by rw [List.length_set], k1, k2, k3, T.get_upd_same _ _ _⟩, fun h => ?_, fun k' hk' => ?_⟩, FrK.one (.inr ⟨_, rfl⟩) _⟩
  · have := congrArg List.length h
    rw [List.length_set] at this
    simp at this; subst this; simp at hil
  · have nty : ∀ vs, h.bl.get bo ≠ some (cellsO vs 47 true) := fun vs => by rw [k4]; exact cells_ty (by decide)
    rcases mem_set hk' with rfl | hk'
    · exact Own.put hq (nty _) _
    · exact Own.put (R.qv k' hk') (nty _) _
theorem RBk.setL (R : RBk a h rb rp most v K) {v' : Value} {K' : List HE} (ho : OwnH a h v' K') (em : EmpV K' v') (hq : ∀ k ∈ K', OwnR a h k.q k.Q) : RBk a ⟨h.nx, h.bl.upd rb (cellsO [.int .i64 (most : Int), .pointer (some ⟨rp, 0, none⟩), v'] 77 false), h.lo⟩ rb rp most v' K' := by
  have c1 := R.cell
  refine ⟨R.lt, R.lo, T.get_upd_same _ _ _, Own.put ho (by rw [c1]; exact cells_op) _, em, fun k hk => Own.put (hq k hk) (by rw [c1]; exact cells_op) _⟩
theorem RPool.frB {B : List Bool} (p : RPool h rp rl B) (R : RBk a h rb rp most v K) {h' : Heap} (f : FrK (SB rb v) h h') : RPool h' rp rl B := by
  have c1 := p.cellp
  have c2 := p.celll
  have c3 := R.cell
  refine p.keep f.nx f.lo (f.get rp p.ltp ?_) (f.get rl p.ltl ?_)
  · rintro (rfl | hb)
    · rw [c1] at c3; exact cells_ty (by decide) c3
    · have := (R.own.blk hb).2.2; rw [c1] at this; exact cells_op this
  · rintro (rfl | hb)
    · rw [c2] at c3; exact cells_ty (by decide) c3
    · have := (R.own.blk hb).2.2; rw [c2] at this; exact cells_op this
theorem RBk.frP (R : RBk a h rb rp most v K) {B : List Bool} (p : RPool h rp rl B) {h' : Heap} (f : FrK (fun c => c = rl) h h') : RBk a h' rb rp most v K := by
  have c2 := p.celll
  refine R.keep f.nx f.lo fun c vs ty op hc hg ht => f.get c hc ?_
  rintro rfl
  rw [hg] at c2
  rcases ht with rfl | ⟨rfl, rfl⟩ | rfl <;> exact cells_ty (by decide) c2
theorem SB_SK {v : Value} : ∀ c, SB rb v c → SK rb rl v c := by
  rintro c (h | h)
  · exact .inl h
  · exact .inr (.inr h)
def EndOf (K K' : List HE) (i : Nat) (k : HE) (w : Int) (Q2 : List R5) : Prop := (Q2 = [] ∧ K' = K.take i ++ K.drop (i + 1)) ∨ (Q2 ≠ [] ∧ ∃ k' : HE, k'.t = k.t ∧ k'.r = k.r ∧ k'.w = w ∧ k'.Q = Q2 ∧ K' = K.set i k')
theorem set_ends {K : List HE} (i : Nat) (k' : HE) : (K.set i k').take i = K.take i ∧ (K.set i k').drop (i + 1) = K.drop (i + 1) :=
  ⟨List.take_set_of_le (Nat.le_refl _), List.drop_set_of_lt (Nat.lt_succ_self _)⟩
theorem rend_w (R : RBk a h rb rp most v K) (hlo : h.lo ≤ h.nx) (la : a.nx ≤ h.nx) (hl : K.length ≤ 1000) {i : Nat} {k : HE} (hk : K[i]? = some k) {q : Value} {w : Int} {Q1 : List R5} (hq : Sl enc5 h q Q1) (hQl : Q1.length ≤ 1000) (vq : VQ Q1 w) (κ : Value → Heap → Prop)
    (hκ : ∀ vi v' K' h', EndOf K K' i k w (scanQ (cntW Q1 + 1) Q1).1 → RBk a h' rb rp most v' K' → FrK (SB rb v) h h' → NewB h v v' → OwnI h h' vi (scanQ (cntW Q1 + 1) Q1).2 → κ vi h') :
    CallW Tryz.prog 75 [.pointer (some ⟨rb, 0, none⟩), .int .i64 (i : Int), hdV k.t k.r q w] h κ := by
  have hq' := hq
  obtain ⟨qx, qc, rfl, _⟩ := hq'
  have hrb := R.lt
  refine callW_of mixed ?_
  rw [rs_75]
  simp(disch:=first|omega|(simp only[Wx];done)|(simp only[Wy];done)|(simp only[Wv];omega)|with_unfolding_all rfl)only[Wz,ptrTo,sliceTo, hdV]
  obtain ⟨hA, e_hA⟩ : ∃ hA : Heap, hA = ⟨h.nx + 1, (h.bl.upd (h.nx) (cellsO [.int .i64 k.t, .int .i64 k.r, .slice qx Q1.length qc, .int .i64 w] 56 false)), h.lo⟩ := ⟨_, rfl⟩
  have le_hA : Le h hA := by subst e_hA; exact ((Le.refl h).new _)
  have g1 : hA.bl.get (h.nx) = some (cellsO [.int .i64 k.t, .int .i64 k.r, .slice qx Q1.length qc, .int .i64 w] 56 false) := by subst e_hA; exact T.get_upd_same _ _ _
  have n_hA : hA.nx = h.nx + 1 := by subst e_hA; rfl
  have l_hA : hA.lo = h.lo := by subst e_hA; rfl
  rw [← e_hA]
  clear e_hA
  refine rscanG_w k.t k.r _ w Q1 hA _ (hq.le le_hA) (by omega) (by omega) vq ?_
  intro q2 vi h2 ho2 hoi2 le2
  have n_le2 := le2.nx
  have l_le2 := le2.lo
  have g1 := (le2.get _ (by omega)).trans g1
  obtain ⟨vq2, hkey, hst, hgr⟩ := scan_ok (cntW Q1 + 1) vq
  generalize hQ2 : (scanQ (cntW Q1 + 1) Q1).1 = Q2 at *
  generalize hI2 : (scanQ (cntW Q1 + 1) Q1).2 = I2 at *
  obtain ⟨qx2, qc2, rfl, _⟩ := ho2.sl
  have R2 := (R.le le_hA).le le2
  have c2 := R2.cell
  have n2 := le2.nx
  have lan := la
  obtain ⟨hB, eB⟩ : ∃ hB : Heap, hB = ⟨h2.nx, h2.bl.upd h.nx (cellsO [.int .i64 k.t, .int .i64 k.r, .slice qx2 Q2.length qc2, .int .i64 w] 56 false), h2.lo⟩ := ⟨_, rfl⟩
  have leB : Le h hB := by rw [eB]; exact (le_hA.trans le2).set (b := h.nx) (by omega) _
  have nB : hB.nx = h2.nx := by rw [eB]
  have lB : hB.lo = h2.lo := by rw [eB]
  have RB := R.le leB
  have hoB : OwnR h hB (.slice qx2 Q2.length qc2) Q2 := by rw [eB]; exact Own.base (Own.put ho2 (by rw [g1]; exact cells_op) _) (by omega)
  have hoiB : OwnI h hB vi I2 := by rw [eB]; exact Own.base (Own.put hoi2 (by rw [g1]; exact cells_op) _) (by omega)
  have gB : hB.bl.get h.nx = some (cellsO [.int .i64 k.t, .int .i64 k.r, .slice qx2 Q2.length qc2, .int .i64 w] 56 false) := by rw [eB]; exact T.get_upd_same _ _ _
  have cB := RB.cell
  obtain ⟨bo, ev, k4, k2, k3, k1, hov, ⟨hfl, hil⟩, RS, fS⟩ := RB.setAt hk (t := k.t) (r := k.r) (w := w) (q := .slice qx2 Q2.length qc2) (Q := Q2) (Own.base hoB (by omega))
  subst ev
  simp(disch:=first|omega|(simp only[Wx];done)|(simp only[Wy];done)|(simp only[Wv];omega)|with_unfolding_all rfl)only[Wz,ptrTo,sliceTo, hdV, g1]
  rw [← eB]
  simp(disch:=first|omega|(simp only[Wx];done)|(simp only[Wy];done)|(simp only[Wv];omega)|with_unfolding_all rfl)only[Wz,ptrTo,sliceTo, c2, gB, indexAddr_eq, k4, hov]
  obtain ⟨hC, eC⟩ : ∃ hC : Heap, hC = ⟨hB.nx, hB.bl.upd bo (cellsO ((K.set i ⟨k.t, k.r, 0, 0, .slice qx2 Q2.length qc2, w, Q2⟩).flatMap encH) 56 true), hB.lo⟩ := ⟨_, rfl⟩
  have hne : bo ≠ h.nx := by rintro rfl; rw [gB] at k4; exact cells_op k4
  have gC : hC.bl.get h.nx = some (cellsO [.int .i64 k.t, .int .i64 k.r, .slice qx2 Q2.length qc2, .int .i64 w] 56 false) := by rw [eC]; exact (T.get_updne _ _ hne).trans gB
  have nC : hC.nx = hB.nx := by rw [eC]
  have lC : hC.lo = hB.lo := by rw [eC]
  have hoiC : OwnI h hC vi I2 := by rw [eC]; exact Own.put hoiB (by rw [k4]; exact cells_ty (by decide)) _
  rw [← eC] at RS fS ⊢
  clear eC
  have fC : FrK (SB rb (.slice (some ⟨bo, 0, none⟩) K.length openCap)) h hC := (FrK.of_le leB).trans fS fun c _ x => x
  refine ⟨fun l h' => ∃ v' K', EndOf K K' i k w Q2 ∧ RBk a h' rb rp most v' K' ∧ FrK (SB rb (.slice (some ⟨bo, 0, none⟩) K.length openCap)) h h' ∧ NewB h (.slice (some ⟨bo, 0, none⟩) K.length openCap) v' ∧ OwnI h h' vi I2, ?_, ?_⟩
  rotate_left
  · rintro l h' ⟨v', K', e1, e2, e3, e5, e4⟩
    exact hκ vi v' K' h' e1 e2 e3 e5 e4
  by_cases h0 : Q2 = []
  case neg =>
    have hpos : 0 < Q2.length := List.length_pos_iff.2 h0
    simp(disch:=first|omega|(simp only[Wx];done)|(simp only[Wy];done)|(simp only[Wv];omega)|with_unfolding_all rfl)only[Wz,ptrTo,sliceTo, rs_75_1, gC, dec_f (show ¬ (Q2.length : Int) = 0 by omega)]
    exact ⟨_, _, .inr ⟨h0, ⟨k.t, k.r, 0, 0, .slice qx2 Q2.length qc2, w, Q2⟩, rfl, rfl, rfl, rfl, rfl⟩, RS, fC, NewB.refl _ _, hoiC⟩
  subst h0
  have cC := RS.cell
  have hsl := RS.own
  obtain ⟨ends1, ends2⟩ := set_ends (K := K) i ⟨k.t, k.r, 0, 0, .slice qx2 ([] : List R5).length qc2, w, []⟩
  have hlen : (K.set i ⟨k.t, k.r, 0, 0, .slice qx2 ([] : List R5).length qc2, w, []⟩).length = K.length := List.length_set
  simp(disch:=first|omega|(simp only[Wx];done)|(simp only[Wy];done)|(simp only[Wv];omega)|with_unfolding_all rfl)only[Wz,ptrTo,sliceTo, rs_75_1, gC, rs_75_0, repeat0, cC]
  obtain ⟨hD, e_hD⟩ : ∃ hD : Heap, hD = ⟨hC.nx + 1, (hC.bl.upd (hC.nx) (cellsO [] 56 false)), hC.lo⟩ := ⟨_, rfl⟩
  have le_hD : Le hC hD := by subst e_hD; exact ((Le.refl hC).new _)
  have gD : hD.bl.get (hC.nx) = some (cellsO [] 56 false) := by subst e_hD; exact T.get_upd_same _ _ _
  have n_hD : hD.nx = hC.nx + 1 := by subst e_hD; rfl
  have l_hD : hD.lo = hC.lo := by subst e_hD; rfl
  rw [← e_hD]
  clear e_hD
  have RD := RS.le le_hD
  have cD := RD.cell
  have hrbC : rb < hC.nx := by omega
  have lrb := R.lo
  rw [front_eq' encH_len (by decide) RD.own RD.emp i (by omega)]
  have hf := front_sl encH_len RD.own i (by omega)
  rw [ends1] at hf
  refine app_more (enc := encH) (a := hD) (L := []) (M := K.take i) encH_len encH_one (by decide) (by decide) (.inl ⟨rfl, .inr ⟨_, _, rfl⟩⟩) (fun _ => .inr ⟨_, _, rfl⟩) hf (Le.refl _) (by simp; omega) (by omega) _ ?_
  intro v5 h5 ho5 em5 le5 _
  rw [List.nil_append] at ho5 em5
  have n5 := le5.nx
  have l5 := le5.lo
  have R5 := RD.le le5
  have c5 := R5.cell
  obtain ⟨u, hu, eu⟩ := R5.own.tail encH_len (by decide) (i + 1) (by omega)
  rw [ends2] at hu
  have ei : (i : Int) + 1 = ((i + 1 : Nat) : Int) := by omega
  simp(disch:=first|omega|(simp only[Wx];done)|(simp only[Wy];done)|(simp only[Wv];omega)|with_unfolding_all rfl)only[Wz,ptrTo,sliceTo, c5, ei, eu]
  refine app_more (enc := encH) (a := hD) (L := K.take i) (M := K.drop (i + 1)) encH_len encH_one (by decide) (by decide) ho5 em5 hu le5 (by simp; omega) (by omega) _ ?_
  intro v6 h6 ho6 em6 le6 _
  have n6 := le6.nx
  have l6 := le6.lo
  have R6 := RD.le le6
  have c6 := R6.cell
  obtain ⟨x6, y6, z6, rfl⟩ : ∃ x y z, v6 = .slice x y z := by obtain ⟨x, z, e, _⟩ := ho6.sl; exact ⟨_, _, _, e⟩
  simp(disch:=first|omega|(simp only[Wx];done)|(simp only[Wy];done)|(simp only[Wv];omega)|with_unfolding_all rfl)only[Wz,ptrTo,sliceTo, c6]
  have hsub : ∀ k' ∈ K.take i ++ K.drop (i + 1), k' ∈ K := fun k' hk' => (List.mem_append.1 hk').elim List.mem_of_mem_take List.mem_of_mem_drop
  have hqs : ∀ k' ∈ K.take i ++ K.drop (i + 1), OwnR a h6 k'.q k'.Q := by
    intro k' hk'
    have : k' ∈ (K.set i ⟨k.t, k.r, 0, 0, .slice qx2 ([] : List Vai.R5).length qc2, w, []⟩).take i ++ (K.set i ⟨k.t, k.r, 0, 0, .slice qx2 ([] : List Vai.R5).length qc2, w, []⟩).drop (i + 1) := by rw [ends1, ends2]; exact hk'
    exact R6.qv k' ((List.mem_append.1 this).elim List.mem_of_mem_take List.mem_of_mem_drop)
  refine ⟨_, _, .inl ⟨rfl, rfl⟩, R6.setL (Own.base ho6 (by omega)) em6 hqs, ?_, NewB.own ho6 (by omega), ?_⟩
  · refine (fC.trans (FrK.of_le (S := SB rb (.slice (some ⟨bo, 0, none⟩) K.length openCap)) (le_hD.trans le6)) fun c _ x => x).trans (FrK.one (.inl rfl) _) fun c _ x => x
  · exact Own.put ((hoiC.le le_hD).le le6) (by rw [c6]; exact cells_op) _
end
end Go.Proofs

namespace Go.Proofs
open Go.Vai Go.Clashes
section
variable {a h : Heap} {rb rp rl most : Nat} {v : Value} {K : List HE} {B : List Bool}
theorem rleaveB_w (R : RBk a h rb rp most v K) (p : RPool h rp rl B) (hlo : h.lo ≤ h.nx) (la : a.nx ≤ h.nx) (hl : K.length ≤ 1000) (gd : ∀ k ∈ K, HeadOk k) (ids : ∀ k ∈ K, ∀ p ∈ k.Q, ∃ n : Nat, p.id = (n : Int) ∧ B[n]? = some true) (d : Int) (κ : Value → Heap → Prop)
    (hk5 : ∀ h', (∀ k ∈ K, findQ k.Q d = none) → Le h h' → κ (.tuple ⟨[.slice none 0 0, .int .i64 5]⟩) h')
    (hk0 : ∀ vi v' K' h' (i : Nat) (k : HE) (p : R5) (n : Nat), K[i]? = some k → findQ k.Q d = some p → d = (n : Int) → B[n]? = some true → EndOf K K' i k k.w (scanQ (cntW (k.Q.filter fun r => !placeR d r) + 1) (k.Q.filter fun r => !placeR d r)).1 → RBk a h' rb rp most v' K' → RPool h' rp rl (B.set n false) → FrK (SK rb rl v) h h' → NewB h v v' →
      OwnI h h' vi (scanQ (cntW (k.Q.filter fun r => !placeR d r) + 1) (k.Q.filter fun r => !placeR d r)).2 → κ (.tuple ⟨[vi, .int .i64 0]⟩) h') :
    CallW Tryz.prog 36 [.pointer (some ⟨rb, 0, none⟩), .int .i64 d] h κ := by
  refine callW_of mixed ?_
  rw [rs_36]
  refine rof_w R hlo hl gd d _ ?_ ?_
  · intro h1 hno le1
    simp(disch:=first|omega|(simp only[Wx];done)|(simp only[Wy];done)|(simp only[Wv];omega)|with_unfolding_all rfl)only[Wz,ptrTo,sliceTo, lt_t (show (-1 : Int) < 0 by decide)]
    exact hk5 h1 hno le1
  · intro i k p0 h1 hk hf le1
    have n1 := le1.nx
    have l1 := le1.lo
    have R1 := R.le le1
    have c1 := R1.cell
    have hkK := List.mem_of_getElem? hk
    have gk := gd k hkK
    have hsm := gk.small
    obtain ⟨j, hj, hjd⟩ := findQ_at gk.vq hf
    obtain ⟨n, en, hbn⟩ := ids k hkK p0 (findQ_some hf).1
    have eid : d = (n : Int) := by rw [← en]; exact hjd.symm
    obtain ⟨b, o, hb, hat, hld⟩ := R1.ld i hk
    have L1 := hld h1 (Le.refl _)
    simp(disch:=first|omega|(simp only[Wx];done)|(simp only[Wy];done)|(simp only[Wv];omega)|with_unfolding_all rfl)only[Wz,ptrTo,sliceTo, lt_f (show (0 : Int) ≤ (i : Int) by omega), rs_36_0, nil_at, c1, hat, L1]
    refine rleave_w k.t k.r k.q k.w d k.Q a h1 _ (R1.qv k hkK) (by omega) (by omega) gk.vq.pair hj hjd ?_
    intro q2 h2 hq2 le2
    have n2 := le2.nx
    have l2 := le2.lo
    have hsl := hq2.1
    obtain ⟨qx2, qc2, rfl, _⟩ := hsl
    have R2 := R1.le le2
    have c2 := R2.cell
    have hrb := R2.lt
    simp(disch:=first|omega|(simp only[Wx];done)|(simp only[Wy];done)|(simp only[Wv];omega)|with_unfolding_all rfl)only[Wz,ptrTo,sliceTo, hdV, nil_at, c2]
    obtain ⟨h3, e3⟩ : ∃ h3 : Heap, h3 = ⟨h2.nx + 1, h2.bl.upd h2.nx (cellsO [.int .i64 k.t, .int .i64 k.r, .slice qx2 (k.Q.filter fun r => !placeR d r).length qc2, .int .i64 k.w] 56 false), h2.lo⟩ := ⟨_, rfl⟩
    have le3 : Le h2 h3 := by rw [e3]; exact (Le.refl h2).new _
    have g3 : h3.bl.get h2.nx = some (cellsO [.int .i64 k.t, .int .i64 k.r, .slice qx2 (k.Q.filter fun r => !placeR d r).length qc2, .int .i64 k.w] 56 false) := by rw [e3]; exact T.get_upd_same _ _ _
    have n3 : h3.nx = h2.nx + 1 := by rw [e3]
    have l3 : h3.lo = h2.lo := by rw [e3]
    rw [← e3]
    clear e3
    have le03 := (le1.trans le2).trans le3
    have p3 := p.le le03
    have R3 := R.le le03
    rw [show (Value.int IntKind.i64 d) = .int .i64 (n : Int) by rw [eid]]
    refine rgive_w p3 n hbn _ ?_
    intro p4
    have prl := p.ltl
    obtain ⟨h4, e4⟩ : ∃ h4 : Heap, h4 = ⟨h3.nx, h3.bl.upd rl (cellsO ((B.set n false).map Value.bool) 4 false), h3.lo⟩ := ⟨_, rfl⟩
    have f4 : FrK (fun c => c = rl) h3 h4 := by rw [e4]; exact FrK.one (S := fun c => c = rl) rfl _
    have g4 : h4.bl.get h2.nx = some (cellsO [.int .i64 k.t, .int .i64 k.r, .slice qx2 (k.Q.filter fun r => !placeR d r).length qc2, .int .i64 k.w] 56 false) := (f4.get _ (by omega) (by omega)).trans g3
    have q4 : QV h4 (.slice qx2 (k.Q.filter fun r => !placeR d r).length qc2) (k.Q.filter fun r => !placeR d r) := by rw [e4]; exact (hq2.le le3).put (fun vs op => by rw [p3.celll]; exact cells_ty (by decide)) _
    rw [← e4] at p4 ⊢
    have n4 : h4.nx = h3.nx := by rw [e4]
    have l4 : h4.lo = h3.lo := by rw [e4]
    clear e4
    have R4 := R3.frP p3 f4
    have lf : (k.Q.filter fun r => !placeR d r).length ≤ k.Q.length := List.length_filter_le _ _
    have fall : FrK (SK rb rl v) h h4 := (FrK.of_le le03).trans f4 fun c _ x => .inr (.inl x)
    simp(disch:=first|omega|(simp only[Wx];done)|(simp only[Wy];done)|(simp only[Wv];omega)|with_unfolding_all rfl)only[Wz,ptrTo,sliceTo, g4]
    refine rend_w R4 (by omega) (by omega) hl hk q4.1 (by omega) (gk.vq.filter _) _ ?_
    · intro vi v' K' h5 he R5 f5 nb5 o5
      exact hk0 vi v' K' h5 i k p0 n hk hf eid hbn he R5 (p4.frB R4 f5) (fall.trans f5 fun c _ x => SB_SK c x) (nb5.up (by omega)) (Own.base o5 (by omega))
end
end Go.Proofs

namespace Go.Proofs
open Go.Vai Go.Clashes
section
variable {a h : Heap} {rb rp rl most : Nat} {v : Value} {K : List HE} {B : List Bool}
theorem rabandonB_w (R : RBk a h rb rp most v K) (p : RPool h rp rl B) (hlo : h.lo ≤ h.nx) (la : a.nx ≤ h.nx) (hl : K.length ≤ 1000) (gd : ∀ k ∈ K, HeadOk k) (ids : ∀ k ∈ K, ∀ p ∈ k.Q, ∃ n : Nat, p.id = (n : Int) ∧ B[n]? = some true) (d : Int) (κ : Value → Heap → Prop)
    (hk5 : ∀ h', (∀ k ∈ K, findQ k.Q d = none) → Le h h' → κ (.tuple ⟨[.slice none 0 0, .int .i64 5]⟩) h')
    (hk7 : ∀ h' k p, k ∈ K → findQ k.Q d = some p → ¬ 0 < p.s → Le h h' → κ (.tuple ⟨[.slice none 0 0, .int .i64 7]⟩) h')
    (hk0 : ∀ vi v' K' h' (i : Nat) (k : HE) (p : R5) (n : Nat), K[i]? = some k → findQ k.Q d = some p → 0 < p.s → p.m = 0 → d = (n : Int) → B[n]? = some true → EndOf K K' i k k.w (scanQ (cntW (k.Q.filter fun r => !placeR d r) + 1) (k.Q.filter fun r => !placeR d r)).1 → RBk a h' rb rp most v' K' → RPool h' rp rl (B.set n false) → FrK (SK rb rl v) h h' → NewB h v v' →
      OwnI h h' vi (scanQ (cntW (k.Q.filter fun r => !placeR d r) + 1) (k.Q.filter fun r => !placeR d r)).2 → κ (.tuple ⟨[vi, .int .i64 0]⟩) h')
    (hk1 : ∀ vi v' K' h' (i : Nat) (k : HE) (p : R5) (j : Nat), K[i]? = some k → k.Q[j]? = some p → findQ k.Q d = some p → 0 < p.s → p.m ≠ 0 → EndOf K K' i k k.w (scanQ (cntW (k.Q.set j (backR p)) + 1) (k.Q.set j (backR p))).1 → RBk a h' rb rp most v' K' → RPool h' rp rl B → FrK (SK rb rl v) h h' → NewB h v v' →
      OwnI h h' vi (scanQ (cntW (k.Q.set j (backR p)) + 1) (k.Q.set j (backR p))).2 → κ (.tuple ⟨[vi, .int .i64 0]⟩) h') :
    CallW Tryz.prog 39 [.pointer (some ⟨rb, 0, none⟩), .int .i64 d] h κ := by
  refine callW_of mixed ?_
  rw [rs_39]
  refine rof_w R hlo hl gd d _ ?_ ?_
  · intro h1 hno le1
    simp(disch:=first|omega|(simp only[Wx];done)|(simp only[Wy];done)|(simp only[Wv];omega)|with_unfolding_all rfl)only[Wz,ptrTo,sliceTo, lt_t (show (-1 : Int) < 0 by decide)]
    exact hk5 h1 hno le1
  · intro i k p0 h1 hk hf le1
    have n1 := le1.nx
    have l1 := le1.lo
    have R1 := R.le le1
    have c1 := R1.cell
    have hkK := List.mem_of_getElem? hk
    have gk := gd k hkK
    have hsm := gk.small
    obtain ⟨j, hj, hjd⟩ := findQ_at gk.vq hf
    obtain ⟨n, en, hbn⟩ := ids k hkK p0 (findQ_some hf).1
    have eid : d = (n : Int) := by rw [← en]; exact hjd.symm
    obtain ⟨b, o, hb, hat, hld⟩ := R1.ld i hk
    have L1 := hld h1 (Le.refl _)
    simp(disch:=first|omega|(simp only[Wx];done)|(simp only[Wy];done)|(simp only[Wv];omega)|with_unfolding_all rfl)only[Wz,ptrTo,sliceTo, lt_f (show (0 : Int) ≤ (i : Int) by omega), rs_39_2, nil_at, c1, hat, L1]
    refine rabandon_w k.t k.r k.q k.w d k.Q a h1 _ (R1.qv k hkK) (by omega) (by omega) gk.vq.pair hj hjd ?_ ?_ ?_
    · intro hs h2 le2
      have n2 := le2.nx
      have l2 := le2.lo
      simp(disch:=first|omega|(simp only[Wx];done)|(simp only[Wy];done)|(simp only[Wv];omega)|with_unfolding_all rfl)only[Wz,ptrTo,sliceTo, hdV]
      exact hk7 _ k p0 hkK hf hs ((le1.trans le2).new _)
    · intro hs hm q2 h2 hq2 le2
      have n2 := le2.nx
      have l2 := le2.lo
      have hsl := hq2.1
      obtain ⟨qx2, qc2, rfl, _⟩ := hsl
      have lf : (k.Q.filter fun r => !placeR d r).length ≤ k.Q.length := List.length_filter_le _ _
      have hrb := (R1.le le2).lt
      simp(disch:=first|omega|(simp only[Wx];done)|(simp only[Wy];done)|(simp only[Wv];omega)|with_unfolding_all rfl)only[Wz,ptrTo,sliceTo, hdV]
      obtain ⟨h3, e3⟩ : ∃ h3 : Heap, h3 = ⟨h2.nx + 1, h2.bl.upd h2.nx (cellsO [.int .i64 k.t, .int .i64 k.r, .slice qx2 (k.Q.filter fun r => !placeR d r).length qc2, .int .i64 k.w] 56 false), h2.lo⟩ := ⟨_, rfl⟩
      have le3 : Le h2 h3 := by rw [e3]; exact (Le.refl h2).new _
      have g3 : h3.bl.get h2.nx = some (cellsO [.int .i64 k.t, .int .i64 k.r, .slice qx2 (k.Q.filter fun r => !placeR d r).length qc2, .int .i64 k.w] 56 false) := by rw [e3]; exact T.get_upd_same _ _ _
      have n3 : h3.nx = h2.nx + 1 := by rw [e3]
      have l3 : h3.lo = h2.lo := by rw [e3]
      rw [← e3]
      clear e3
      have le03 := (le1.trans le2).trans le3
      simp(disch:=first|omega|(simp only[Wx];done)|(simp only[Wy];done)|(simp only[Wv];omega)|with_unfolding_all rfl)only[Wz,ptrTo,sliceTo, rs_39_1, g3]
      refine rfind9_w k.t k.r _ k.w d _ h3 _ (hq2.1.le le3) (by omega) (by omega) ?_
      intro h4 le4
      have n4 := le4.nx
      have l4 := le4.lo
      rw [find_filter]
      have le5 : Le h3 ⟨h4.nx + 1, h4.bl.upd h4.nx (blkR ⟨0, 0, 0, 0, 0⟩), h4.lo⟩ := le4.new _
      have g4 := (le4.get _ (by omega)).trans g3
      have R4 := (R.le le03).le le4
      have c4 := R4.cell
      simp(disch:=first|omega|(simp only[Wx];done)|(simp only[Wy];done)|(simp only[Wv];omega)|with_unfolding_all rfl)only[Wz,ptrTo,sliceTo, enc5]
      obtain ⟨h5, e5⟩ : ∃ h5 : Heap, h5 = ⟨h4.nx + 1, h4.bl.upd h4.nx (blkR ⟨0, 0, 0, 0, 0⟩), h4.lo⟩ := ⟨_, rfl⟩
      have n5 : h5.nx = h4.nx + 1 := by rw [e5]
      have l5 : h5.lo = h4.lo := by rw [e5]
      rw [← e5] at le5 ⊢
      clear e5
      have le05 := le03.trans le5
      have p5 := p.le le05
      have R5 := R.le le05
      have c5 := R5.cell
      have q5 := (hq2.le le3).le le5
      have g5 := (le5.get _ (by omega)).trans g3
      refine ⟨fun l h' => FrK (fun c => c = rl) h5 h' ∧ RPool h' rp rl (B.set n false) ∧ QV h' (.slice qx2 (k.Q.filter fun r => !placeR d r).length qc2) (k.Q.filter fun r => !placeR d r), ?_, ?_⟩
      · simp(disch:=first|omega|(simp only[Wx];done)|(simp only[Wy];done)|(simp only[Wv];omega)|with_unfolding_all rfl)only[Wz,ptrTo,sliceTo, rs_39_0, nil_at, c5]
        rw [show (Value.int IntKind.i64 d) = .int .i64 (n : Int) by rw [eid]]
        refine rgive_w p5 n hbn _ ?_
        intro p6
        exact ⟨FrK.one (S := fun c => c = rl) rfl _, p6, q5.put (fun vs op => by rw [p5.celll]; exact cells_ty (by decide)) _⟩
      · rintro l h6 ⟨f6, p6, q6⟩
        have n6 := f6.nx
        have l6 := f6.lo
        have prl := p.ltl
        have g6 := (f6.get _ (by omega) (by omega)).trans g5
        have R6 := R5.frP p5 f6
        have fall : FrK (SK rb rl v) h h6 := (FrK.of_le le05).trans f6 fun c _ x => .inr (.inl x)
        simp(disch:=first|omega|(simp only[Wx];done)|(simp only[Wy];done)|(simp only[Wv];omega)|with_unfolding_all rfl)only[Wz,ptrTo,sliceTo, g6]
        refine rend_w R6 (by omega) (by omega) hl hk q6.1 (by omega) (gk.vq.filter _) _ ?_
        intro vi v' K' h7 he R7 f7 nb7 o7
        exact hk0 vi v' K' h7 i k p0 n hk hf hs hm eid hbn he R7 (p6.frB R6 f7) (fall.trans f7 fun c _ x => SB_SK c x) (nb7.up (by omega)) (Own.base o7 (by omega))
    · intro hs hm q2 h2 hq2 le2
      have n2 := le2.nx
      have l2 := le2.lo
      have hsl := hq2.1
      obtain ⟨qx2, qc2, rfl, _⟩ := hsl
      have hrb := (R1.le le2).lt
      simp(disch:=first|omega|(simp only[Wx];done)|(simp only[Wy];done)|(simp only[Wv];omega)|with_unfolding_all rfl)only[Wz,ptrTo,sliceTo, hdV]
      obtain ⟨h3, e3⟩ : ∃ h3 : Heap, h3 = ⟨h2.nx + 1, h2.bl.upd h2.nx (cellsO [.int .i64 k.t, .int .i64 k.r, .slice qx2 (k.Q.set j (backR p0)).length qc2, .int .i64 k.w] 56 false), h2.lo⟩ := ⟨_, rfl⟩
      have le3 : Le h2 h3 := by rw [e3]; exact (Le.refl h2).new _
      have g3 : h3.bl.get h2.nx = some (cellsO [.int .i64 k.t, .int .i64 k.r, .slice qx2 (k.Q.set j (backR p0)).length qc2, .int .i64 k.w] 56 false) := by rw [e3]; exact T.get_upd_same _ _ _
      have n3 : h3.nx = h2.nx + 1 := by rw [e3]
      have l3 : h3.lo = h2.lo := by rw [e3]
      rw [← e3]
      clear e3
      have le03 := (le1.trans le2).trans le3
      have hlb : (k.Q.set j (backR p0)).length ≤ 128 := by rw [List.length_set]; exact hsm
      simp(disch:=first|omega|(simp only[Wx];done)|(simp only[Wy];done)|(simp only[Wv];omega)|with_unfolding_all rfl)only[Wz,ptrTo,sliceTo, rs_39_1, g3]
      refine rfind9_w k.t k.r _ k.w d _ h3 _ (hq2.1.le le3) (by omega) (by omega) ?_
      intro h4 le4
      have n4 := le4.nx
      have l4 := le4.lo
      obtain ⟨o', ho'⟩ := find_set gk.vq hj hjd (p' := backR p0) rfl
      rw [ho']
      simp(disch:=first|omega|(simp only[Wx];done)|(simp only[Wy];done)|(simp only[Wv];omega)|with_unfolding_all rfl)only[Wz,ptrTo,sliceTo, enc5]
      have le5 : Le h3 ⟨h4.nx + 1, h4.bl.upd h4.nx (blkR o'), h4.lo⟩ := le4.new _
      obtain ⟨h5, e5⟩ : ∃ h5 : Heap, h5 = ⟨h4.nx + 1, h4.bl.upd h4.nx (blkR o'), h4.lo⟩ := ⟨_, rfl⟩
      have n5 : h5.nx = h4.nx + 1 := by rw [e5]
      have l5 : h5.lo = h4.lo := by rw [e5]
      rw [← e5] at le5 ⊢
      clear e5
      have le05 := le03.trans le5
      have g5 := (le5.get _ (by omega)).trans g3
      refine ⟨fun l h' => HQ h5 h', ?_, ?_⟩
      · simp(disch:=first|omega|(simp only[Wx];done)|(simp only[Wy];done)|(simp only[Wv];omega)|with_unfolding_all rfl)only[Wz,ptrTo,sliceTo, rs_39_0]
        rfl
      · intro l h6 hQ
        cases (show h5 = h6 from hQ)
        have R5 := R.le le05
        have p5 := p.le le05
        simp(disch:=first|omega|(simp only[Wx];done)|(simp only[Wy];done)|(simp only[Wv];omega)|with_unfolding_all rfl)only[Wz,ptrTo,sliceTo, g5]
        refine rend_w R5 (by omega) (by omega) hl hk ((hq2.le le3).le le5).1 (by omega) (gk.vq.back hj hm) _ ?_
        intro vi v' K' h7 he R7 f7 nb7 o7
        exact hk1 vi v' K' h7 i k p0 j hk hj hf hs hm he R7 (p5.frB R5 f7) ((FrK.of_le le05).trans f7 fun c _ x => SB_SK c x) (nb7.up (by omega)) (Own.base o7 (by omega))
theorem rupgradeB_w (R : RBk a h rb rp most v K) (p : RPool h rp rl B) (hlo : h.lo ≤ h.nx) (la : a.nx ≤ h.nx) (hl : K.length ≤ 1000) (gd : ∀ k ∈ K, HeadOk k) (hw : ∀ k ∈ K, k.w ≤ 100000) (d m : Int) (κ : Value → Heap → Prop)
    (hk2 : ∀ h', askedM m = false → Le h h' → κ (.tuple ⟨[.bool false, .int .i64 2]⟩) h')
    (hk5 : ∀ h', askedM m = true → (∀ k ∈ K, findQ k.Q d = none) → Le h h' → κ (.tuple ⟨[.bool false, .int .i64 5]⟩) h')
    (hk7 : ∀ h' k p, askedM m = true → k ∈ K → findQ k.Q d = some p → 0 < p.s → Le h h' → κ (.tuple ⟨[.bool false, .int .i64 7]⟩) h')
    (hk0 : ∀ q' h' (i : Nat) (k : HE) (p : R5) (j : Nat), askedM m = true → K[i]? = some k → k.Q[j]? = some p → findQ k.Q d = some p → ¬ 0 < p.s → RBk a h' rb rp most v (K.set i ⟨k.t, k.r, 0, 0, q', (upgR k.Q k.w p m).2.1, k.Q.set j (upgR k.Q k.w p m).1⟩) → RPool h' rp rl B → FrK (SK rb rl v) h h' → κ (.tuple ⟨[.bool (upgR k.Q k.w p m).2.2, .int .i64 0]⟩) h') :
    CallW Tryz.prog 35 [.pointer (some ⟨rb, 0, none⟩), .int .i64 d, .int .i64 m] h κ := by
  have pool := p
  refine callW_of mixed ?_
  rw [rs_35]
  refine rof_w R hlo hl gd d _ ?_ ?_
  · intro h1 hno le1
    have n1 := le1.nx
    have l1 := le1.lo
    simp(disch:=first|omega|(simp only[Wx];done)|(simp only[Wy];done)|(simp only[Wv];omega)|with_unfolding_all rfl)only[Wz,ptrTo,sliceTo, lt_t (show (-1 : Int) < 0 by decide), rs_35_1]
    refine rupgrade_w 0 0 (.slice none 0 0) 0 d m [] h1 _ (Sl.nil _ _ _) (by simp) (by omega) ⟨by omega, by omega⟩ List.Pairwise.nil ?_ ?_ ?_ ?_
    · intro ha h2 le2
      have n2 := le2.nx
      have l2 := le2.lo
      simp(disch:=first|omega|(simp only[Wx];done)|(simp only[Wy];done)|(simp only[Wv];omega)|with_unfolding_all rfl)only[Wz,ptrTo,sliceTo, hdV]
      exact hk2 _ ha ((le1.trans le2).new _)
    · intro ha _ h2 le2
      have n2 := le2.nx
      have l2 := le2.lo
      simp(disch:=first|omega|(simp only[Wx];done)|(simp only[Wy];done)|(simp only[Wv];omega)|with_unfolding_all rfl)only[Wz,ptrTo,sliceTo, hdV]
      exact hk5 _ ha hno ((le1.trans le2).new _)
    · intro _ p hp; simp [findQ] at hp
    · intro _ i p hi; simp at hi
  · intro i k p0 h1 hk hf le1
    have n1 := le1.nx
    have l1 := le1.lo
    have R1 := R.le le1
    have c1 := R1.cell
    have hkK := List.mem_of_getElem? hk
    have gk := gd k hkK
    have hsm := gk.small
    have hwk := hw k hkK
    have hw0 := gk.vq.w0
    obtain ⟨b, o, hb, hat, hld⟩ := R1.ld i hk
    have L1 := hld h1 (Le.refl _)
    simp(disch:=first|omega|(simp only[Wx];done)|(simp only[Wy];done)|(simp only[Wv];omega)|with_unfolding_all rfl)only[Wz,ptrTo,sliceTo, lt_f (show (0 : Int) ≤ (i : Int) by omega), rs_35_2, nil_at, c1, hat, L1]
    refine rupgrade_w k.t k.r k.q k.w d m k.Q h1 _ (R1.qv k hkK).sl (by omega) (by omega) ⟨by omega, by omega⟩ gk.vq.pair ?_ ?_ ?_ ?_
    · intro ha h2 le2
      have n2 := le2.nx
      have l2 := le2.lo
      simp(disch:=first|omega|(simp only[Wx];done)|(simp only[Wy];done)|(simp only[Wv];omega)|with_unfolding_all rfl)only[Wz,ptrTo,sliceTo, hdV]
      exact hk2 _ ha ((le1.trans le2).new _)
    · intro ha hno h2 le2
      rw [hf] at hno; cases hno
    · intro ha p hp hs h2 le2
      have n2 := le2.nx
      have l2 := le2.lo
      simp(disch:=first|omega|(simp only[Wx];done)|(simp only[Wy];done)|(simp only[Wv];omega)|with_unfolding_all rfl)only[Wz,ptrTo,sliceTo, hdV]
      exact hk7 _ k p ha hkK hp hs ((le1.trans le2).new _)
    · intro ha j p hj hp hs q2 h2 ho2 le2
      have n2 := le2.nx
      have l2 := le2.lo
      obtain ⟨qx2, qc2, rfl, _⟩ := ho2.sl
      have le02 := le1.trans le2
      have hrb := R.lt
      simp(disch:=first|omega|(simp only[Wx];done)|(simp only[Wy];done)|(simp only[Wv];omega)|with_unfolding_all rfl)only[Wz,ptrTo,sliceTo, hdV]
      obtain ⟨h3, e3⟩ : ∃ h3 : Heap, h3 = ⟨h2.nx + 1, h2.bl.upd h2.nx (cellsO [.int .i64 k.t, .int .i64 k.r, .slice qx2 (k.Q.set j (upgR k.Q k.w p m).1).length qc2, .int .i64 (upgR k.Q k.w p m).2.1] 56 false), h2.lo⟩ := ⟨_, rfl⟩
      have le3 : Le h2 h3 := by rw [e3]; exact (Le.refl h2).new _
      have g3 : h3.bl.get h2.nx = some (cellsO [.int .i64 k.t, .int .i64 k.r, .slice qx2 (k.Q.set j (upgR k.Q k.w p m).1).length qc2, .int .i64 (upgR k.Q k.w p m).2.1] 56 false) := by rw [e3]; exact T.get_upd_same _ _ _
      have n3 : h3.nx = h2.nx + 1 := by rw [e3]
      have l3 : h3.lo = h2.lo := by rw [e3]
      rw [← e3]
      clear e3
      have le03 := le02.trans le3
      have R3 := R.le le03
      have c3 := R3.cell
      obtain ⟨bo, ev, k4, k2, k3, k1, hov, ⟨hfl, hil⟩, RS, fS⟩ := R3.setAt hk (t := k.t) (r := k.r) (w := (upgR k.Q k.w p m).2.1) (q := .slice qx2 (k.Q.set j (upgR k.Q k.w p m).1).length qc2) (Q := k.Q.set j (upgR k.Q k.w p m).1) (Own.base (ho2.le le3) (by omega))
      subst ev
      simp(disch:=first|omega|(simp only[Wx];done)|(simp only[Wy];done)|(simp only[Wv];omega)|with_unfolding_all rfl)only[Wz,ptrTo,sliceTo, rs_35_0, nil_at, c3, g3, indexAddr_eq, k4, hov]
      exact hk0 _ _ i k p j ha hk hj hp hs RS ((RPool.le pool le03).frB R3 fS) ((FrK.of_le le03).trans fS fun c _ x => SB_SK c x)
theorem rhandB_w (R : RBk a h rb rp most v K) (p : RPool h rp rl B) (hlo : h.lo ≤ h.nx) (la : a.nx ≤ h.nx) (hl : K.length ≤ 1000) (gd : ∀ k ∈ K, HeadOk k) (d x : Int) (κ : Value → Heap → Prop)
    (hk5 : ∀ h', (∀ k ∈ K, findQ k.Q d = none) → Le h h' → κ (.int .i64 5) h')
    (hk4 : ∀ h' k p, k ∈ K → findQ k.Q d = some p → (∃ o ∈ k.Q, o.id ≠ d ∧ o.x = x) → Le h h' → κ (.int .i64 4) h')
    (hk7 : ∀ h' k p, k ∈ K → findQ k.Q d = some p → (∀ o ∈ k.Q, o.id ≠ d → o.x ≠ x) → 0 < p.s → Le h h' → κ (.int .i64 7) h')
    (hk0 : ∀ q' h' (i : Nat) (k : HE) (p : R5) (j : Nat), K[i]? = some k → k.Q[j]? = some p → findQ k.Q d = some p → (∀ o ∈ k.Q, o.id ≠ d → o.x ≠ x) → ¬ 0 < p.s → RBk a h' rb rp most v (K.set i ⟨k.t, k.r, 0, 0, q', k.w, k.Q.set j (handR p x)⟩) → RPool h' rp rl B → FrK (SK rb rl v) h h' → κ (.int .i64 0) h') :
    CallW Tryz.prog 41 [.pointer (some ⟨rb, 0, none⟩), .int .i64 d, .int .i64 x] h κ := by
  have pool := p
  refine callW_of mixed ?_
  rw [rs_41]
  refine rof_w R hlo hl gd d _ ?_ ?_
  · intro h1 hno le1
    simp(disch:=first|omega|(simp only[Wx];done)|(simp only[Wy];done)|(simp only[Wv];omega)|with_unfolding_all rfl)only[Wz,ptrTo,sliceTo, lt_t (show (-1 : Int) < 0 by decide)]
    exact hk5 h1 hno le1
  · intro i k p0 h1 hk hf le1
    have n1 := le1.nx
    have l1 := le1.lo
    have R1 := R.le le1
    have c1 := R1.cell
    have hkK := List.mem_of_getElem? hk
    have gk := gd k hkK
    have hsm := gk.small
    obtain ⟨j, hj, hjd⟩ := findQ_at gk.vq hf
    obtain ⟨b, o, hb, hat, hld⟩ := R1.ld i hk
    have L1 := hld h1 (Le.refl _)
    simp(disch:=first|omega|(simp only[Wx];done)|(simp only[Wy];done)|(simp only[Wv];omega)|with_unfolding_all rfl)only[Wz,ptrTo,sliceTo, lt_f (show (0 : Int) ≤ (i : Int) by omega), rs_41_1, nil_at, c1, hat, L1]
    refine rhand_w k.t k.r k.q k.w d x k.Q h1 _ (R1.qv k hkK).sl (by omega) (by omega) gk.vq.pair hj hjd ?_ ?_ ?_
    · intro hx h2 le2
      have n2 := le2.nx
      have l2 := le2.lo
      simp(disch:=first|omega|(simp only[Wx];done)|(simp only[Wy];done)|(simp only[Wv];omega)|with_unfolding_all rfl)only[Wz,ptrTo,sliceTo, hdV]
      refine ⟨fun l h' => Le h h', (le1.trans le2).new _, fun l h' le' => hk4 _ k p0 hkK hf hx le'⟩
    · intro hx hs h2 le2
      have n2 := le2.nx
      have l2 := le2.lo
      simp(disch:=first|omega|(simp only[Wx];done)|(simp only[Wy];done)|(simp only[Wv];omega)|with_unfolding_all rfl)only[Wz,ptrTo,sliceTo, hdV]
      refine ⟨fun l h' => Le h h', (le1.trans le2).new _, fun l h' le' => hk7 _ k p0 hkK hf hx hs le'⟩
    · intro hx hs q2 h2 ho2 le2
      have n2 := le2.nx
      have l2 := le2.lo
      obtain ⟨qx2, qc2, rfl, _⟩ := ho2.sl
      have le02 := le1.trans le2
      have hrb := R.lt
      simp(disch:=first|omega|(simp only[Wx];done)|(simp only[Wy];done)|(simp only[Wv];omega)|with_unfolding_all rfl)only[Wz,ptrTo,sliceTo, hdV]
      obtain ⟨h3, e3⟩ : ∃ h3 : Heap, h3 = ⟨h2.nx + 1, h2.bl.upd h2.nx (cellsO [.int .i64 k.t, .int .i64 k.r, .slice qx2 (k.Q.set j (handR p0 x)).length qc2, .int .i64 k.w] 56 false), h2.lo⟩ := ⟨_, rfl⟩
      have le3 : Le h2 h3 := by rw [e3]; exact (Le.refl h2).new _
      have g3 : h3.bl.get h2.nx = some (cellsO [.int .i64 k.t, .int .i64 k.r, .slice qx2 (k.Q.set j (handR p0 x)).length qc2, .int .i64 k.w] 56 false) := by rw [e3]; exact T.get_upd_same _ _ _
      have n3 : h3.nx = h2.nx + 1 := by rw [e3]
      have l3 : h3.lo = h2.lo := by rw [e3]
      rw [← e3]
      clear e3
      have le03 := le02.trans le3
      have R3 := R.le le03
      have c3 := R3.cell
      obtain ⟨bo, ev, k4, k2, k3, k1, hov, ⟨hfl, hil⟩, RS, fS⟩ := R3.setAt hk (t := k.t) (r := k.r) (w := k.w) (q := .slice qx2 (k.Q.set j (handR p0 x)).length qc2) (Q := k.Q.set j (handR p0 x)) (Own.base (ho2.le le3) (by omega))
      subst ev
      refine ⟨fun l h' => RBk a h' rb rp most (.slice (some ⟨bo, 0, none⟩) K.length openCap) (K.set i ⟨k.t, k.r, 0, 0, .slice qx2 (k.Q.set j (handR p0 x)).length qc2, k.w, k.Q.set j (handR p0 x)⟩) ∧ RPool h' rp rl B ∧ FrK (SK rb rl (.slice (some ⟨bo, 0, none⟩) K.length openCap)) h h', ?_, ?_⟩
      · simp(disch:=first|omega|(simp only[Wx];done)|(simp only[Wy];done)|(simp only[Wv];omega)|with_unfolding_all rfl)only[Wz,ptrTo,sliceTo, rs_41_0, nil_at, c3, g3, indexAddr_eq, k4, hov]
        exact ⟨RS, (RPool.le pool le03).frB R3 fS, (FrK.of_le le03).trans fS fun c _ x => SB_SK c x⟩
      · rintro l h' ⟨r1, r2, r3⟩
        exact hk0 _ _ i k p0 j hk hj hf hx hs r1 r2 r3
end
end Go.Proofs

namespace Go.Proofs
open Go.Vai Go.Clashes
theorem lent_all {B : List Bool} (h : ∀ k, k < B.length → B[k]? = some true) : (lentL B).length = B.length := by
  unfold lentL
  rw [List.length_map, List.filter_eq_self.2, List.length_range]
  intro k hk
  rw [h k (List.mem_range.1 hk)]; rfl
section
variable {a h : Heap} {rb rp rl most : Nat} {v : Value} {K : List HE} {B : List Bool}
theorem rask2_w (R : RBk a h rb rp most v K) (p : RPool h rp rl B) (hlo : h.lo ≤ h.nx) (la : a.nx ≤ h.nx) (hl : K.length ≤ 1000) (t r x m : Int) (hm : askedM m = true) {q : Value} {w : Int} {Q : List R5} (hq : QV h q Q) (hQl : Q.length ≤ 1000) (hw : 0 ≤ w ∧ w ≤ 100000)
    (hn : ∀ n : Nat, B[n]? = some false → ∀ o ∈ Q, o.id ≠ (n : Int) ∧ o.x ≠ x) {pb : Nat} (hpb : pb < h.nx) (lpb : h.lo ≤ pb) (gpb : h.bl.get pb = some (cellsO [.int .i64 t, .int .i64 r, q, .int .i64 w] 56 false)) (hroom : (lentL B).length < B.length)
    (i i' : Nat) (th : Bool) (hi' : (th = true ∧ i' = i + 1) ∨ (th = false ∧ i' = i)) (hil : i' ≤ K.length) (κ : Value → Heap → Prop)
    (hk : ∀ (n : Nat) q' v' h', B[n]? = some false → (∀ k, k < n → B[k]? = some true) → RBk a h' rb rp most v' (K.take i ++ ⟨t, r, 0, 0, q', (askR Q w n x m).2.1, Q ++ [(askR Q w n x m).1]⟩ :: K.drop i') → RPool h' rp rl (B.set n true) → FrK (fun c => c = rb ∨ c = rl ∨ c = pb) h h' → NewB h v v' → κ (.tuple ⟨[.int .i64 (n : Int), .bool (askR Q w n x m).2.2, .int .i64 0]⟩) h') :
    rs_42_2 (.pointer (some ⟨rb, 0, none⟩)) pb (.int .i64 x) (.int .i64 m) (.int .i64 (i : Int)) (.bool th) h κ := by
  have c0 := R.cell
  have hrb := R.lt
  have lrb := R.lo
  have prl := p.ltl
  have hile : i ≤ K.length := by rcases hi' with ⟨_, e⟩ | ⟨_, e⟩ <;> omega
  simp(disch:=first|omega|(simp only[Wx];done)|(simp only[Wy];done)|(simp only[Wv];omega)|with_unfolding_all rfl)only[Wz,ptrTo,sliceTo, rs_42_2, nil_at, c0]
  refine rtake_w p _ ?_ ?_
  · intro hall
    have := lent_all hall
    omega
  intro n hb hleast p1
  obtain ⟨h1, e1⟩ : ∃ h1 : Heap, h1 = ⟨h.nx, h.bl.upd rl (cellsO ((B.set n true).map Value.bool) 4 false), h.lo⟩ := ⟨_, rfl⟩
  have f1 : FrK (fun c => c = rl) h h1 := by rw [e1]; exact FrK.one (S := fun c => c = rl) rfl _
  have hne : pb ≠ rl := by rintro rfl; exact cells_ty (by decide) (gpb.symm.trans p.celll)
  have hnb : pb ≠ rb := by rintro rfl; exact cells_ty (by decide) (gpb.symm.trans c0)
  have hnr : rb ≠ rl := by rintro rfl; exact cells_ty (by decide) (c0.symm.trans p.celll)
  have g1 : h1.bl.get pb = some (cellsO [.int .i64 t, .int .i64 r, q, .int .i64 w] 56 false) := (f1.get pb hpb hne).trans gpb
  have n1 : h1.nx = h.nx := by rw [e1]
  have l1 : h1.lo = h.lo := by rw [e1]
  have q1 : QV h1 q Q := by rw [e1]; exact hq.put (fun vs op => by rw [p.celll]; exact cells_ty (by decide)) _
  rw [← e1] at p1 ⊢
  clear e1
  have R1 := R.frP p f1
  have hnn := hn n hb
  simp(disch:=first|omega|(simp only[Wx];done)|(simp only[Wy];done)|(simp only[Wv];omega)|with_unfolding_all rfl)only[Wz,ptrTo,sliceTo, g1]
  refine rask_w t r q w (n : Int) x m Q h1 _ q1.1 (by omega) (by omega) ⟨by omega, by omega⟩ (by omega) hm hnn ?_
  intro q2 h2 ho2 le2
  have n2 := le2.nx
  have l2 := le2.lo
  have g2 := (le2.get pb (by omega)).trans g1
  obtain ⟨qx2, qc2, rfl, _⟩ := ho2.sl
  have R2 := R1.le le2
  have c2 := R2.cell
  have hkn := hk n
  clear hk
  generalize hP : (askR Q w n x m).1 = P at *
  generalize hW2 : (askR Q w n x m).2.1 = W2 at *
  generalize hG : (askR Q w n x m).2.2 = G at *
  obtain ⟨h3, e3⟩ : ∃ h3 : Heap, h3 = ⟨h2.nx, h2.bl.upd pb (cellsO [.int .i64 t, .int .i64 r, .slice qx2 (Q ++ [P]).length qc2, .int .i64 W2] 56 false), h2.lo⟩ := ⟨_, rfl⟩
  have f3 : FrK (fun c => c = pb) h2 h3 := by rw [e3]; exact FrK.one (S := fun c => c = pb) rfl _
  have g3 : h3.bl.get pb = some (cellsO [.int .i64 t, .int .i64 r, .slice qx2 (Q ++ [P]).length qc2, .int .i64 W2] 56 false) := by rw [e3]; exact T.get_upd_same _ _ _
  have n3 : h3.nx = h2.nx := by rw [e3]
  have l3 : h3.lo = h2.lo := by rw [e3]
  have R3 : RBk a h3 rb rp most v K := R2.keep f3.nx f3.lo fun c vs ty op hc hg ht => f3.get c hc (by
    rintro rfl
    rw [hg] at g2
    rcases ht with rfl | ⟨rfl, rfl⟩ | rfl
    · exact cells_ty (by decide) g2
    · exact cells_op g2.symm
    · exact cells_ty (by decide) g2)
  have p2 := p1.le le2
  have p3 : RPool h3 rp rl (B.set n true) := p2.keep f3.nx f3.lo (f3.get _ p2.ltp (by rintro rfl; exact cells_ty (by decide) (g2.symm.trans p2.cellp))) (f3.get _ p2.ltl (by rintro rfl; exact cells_ty (by decide) (g2.symm.trans p2.celll)))
  have ho3 : OwnR h1 h3 (.slice qx2 (Q ++ [P]).length qc2) (Q ++ [P]) := by rw [e3]; exact Own.put ho2 (by rw [g2]; exact cells_op) _
  have c3 := R3.cell
  simp(disch:=first|omega|(simp only[Wx];done)|(simp only[Wy];done)|(simp only[Wv];omega)|with_unfolding_all rfl)only[Wz,ptrTo,sliceTo, hdV, g2, repeat0, c2]
  obtain ⟨h4, e4⟩ : ∃ h4 : Heap, h4 = ⟨h2.nx + 1, (h2.bl.upd pb (cellsO [.int .i64 t, .int .i64 r, .slice qx2 (Q ++ [P]).length qc2, .int .i64 W2] 56 false)).upd h2.nx (cellsO [] 56 false), h2.lo⟩ := ⟨_, rfl⟩
  have le4 : Le h3 h4 := by
    have : h4 = ⟨h3.nx + 1, h3.bl.upd h3.nx (cellsO [] 56 false), h3.lo⟩ := by rw [e4, e3]
    rw [this]; exact (Le.refl h3).new _
  have n4 : h4.nx = h2.nx + 1 := by rw [e4]
  have l4 : h4.lo = h2.lo := by rw [e4]
  rw [← e4]
  clear e4 e3
  have fall3 : FrK (fun c => c = rb ∨ c = rl ∨ c = pb) h h3 := ((f1.trans (FrK.of_le (S := fun c => c = rl) le2) fun c _ x => x).mono fun c _ x => .inr (.inl x)).trans f3 fun c _ x => .inr (.inr x)
  have R4 := R3.le le4
  rw [front_eq' encH_len (by decide) R4.own R4.emp i hile]
  have hf := front_sl encH_len R4.own i hile
  refine app_more (enc := encH) (a := h4) (L := []) (M := K.take i) encH_len encH_one (by decide) (by decide) (.inl ⟨rfl, .inr ⟨_, _, rfl⟩⟩) (fun _ => .inr ⟨_, _, rfl⟩) hf (Le.refl _) (by simp; omega) (by omega) _ ?_
  intro v5 h5 ho5 em5 le5 _
  rw [List.nil_append] at ho5 em5
  have n5 := le5.nx
  have l5 := le5.lo
  have g5 := ((le4.trans le5).get pb (by omega)).trans g3
  simp(disch:=first|omega|(simp only[Wx];done)|(simp only[Wy];done)|(simp only[Wv];omega)|with_unfolding_all rfl)only[Wz,ptrTo,sliceTo, g5]
  obtain ⟨h6, e_h6⟩ : ∃ h6 : Heap, h6 = ⟨h5.nx + 1, (h5.bl.upd (h5.nx) (cellsO [.int .i64 t, .int .i64 r, .slice qx2 (Q ++ [P]).length qc2, .int .i64 W2] 56 false)), h5.lo⟩ := ⟨_, rfl⟩
  have le_h6 : Le h5 h6 := by subst e_h6; exact ((Le.refl h5).new _)
  have g6 : h6.bl.get (h5.nx) = some (cellsO [.int .i64 t, .int .i64 r, .slice qx2 (Q ++ [P]).length qc2, .int .i64 W2] 56 false) := by subst e_h6; exact T.get_upd_same _ _ _
  have n_h6 : h6.nx = h5.nx + 1 := by subst e_h6; rfl
  have l_h6 : h6.lo = h5.lo := by subst e_h6; rfl
  rw [← e_h6]
  clear e_h6
  have hone : Sl encH h6 (.slice (some ⟨h5.nx, 0, none⟩) 1 1) [⟨t, r, 0, 0, .slice qx2 (Q ++ [P]).length qc2, W2, Q ++ [P]⟩] := Sl.new (L := [(⟨t, r, 0, 0, .slice qx2 (Q ++ [P]).length qc2, W2, Q ++ [P]⟩ : HE)]) (e := 56) (op := false) (by omega) g6 _
  refine app_more (enc := encH) (a := h4) (L := K.take i) (M := [⟨t, r, 0, 0, .slice qx2 (Q ++ [P]).length qc2, W2, Q ++ [P]⟩]) encH_len encH_one (by decide) (by decide) (ho5.le le_h6) em5 hone (le5.trans le_h6) (by simp; omega) (by omega) _ ?_
  intro v7 h7 ho7 em7 le7 _
  have n7 := le7.nx
  have l7 := le7.lo
  have R7 := R4.le le7
  have c7 := R7.cell
  obtain ⟨u, hu, eu⟩ := R7.own.tail encH_len (by decide) i' hil
  have ei : (i : Int) + 1 = ((i + 1 : Nat) : Int) := by omega
  refine ⟨fun l h' => slot l 3 = .int .i64 (i' : Int) ∧ HQ h7 h', ?_, ?_⟩
  · rcases hi' with ⟨rfl, rfl⟩ | ⟨rfl, rfl⟩
    · simp(disch:=first|omega|(simp only[Wx];done)|(simp only[Wy];done)|(simp only[Wv];omega)|with_unfolding_all rfl)only[Wz,ptrTo,sliceTo, ei]
      exact ⟨trivial, rfl⟩
    · simp(disch:=first|omega|(simp only[Wx];done)|(simp only[Wy];done)|(simp only[Wv];omega)|with_unfolding_all rfl)only[Wz,ptrTo,sliceTo]
      exact ⟨trivial, rfl⟩
  rintro l h' ⟨s3, hQ⟩
  cases (show h7 = h' from hQ)
  simp(disch:=first|omega|(simp only[Wx];done)|(simp only[Wy];done)|(simp only[Wv];omega)|with_unfolding_all rfl)only[Wz,ptrTo,sliceTo, rs_42_1, nil_at, c7, s3, eu]
  refine app_more (enc := encH) (a := h4) (L := K.take i ++ [⟨t, r, 0, 0, .slice qx2 (Q ++ [P]).length qc2, W2, Q ++ [P]⟩]) (M := K.drop i') encH_len encH_one (by decide) (by decide) ho7 em7 hu le7 (by simp; omega) (by omega) _ ?_
  intro v8 h8 ho8 em8 le8 _
  have n8 := le8.nx
  have l8 := le8.lo
  have R8 := R4.le le8
  have c8 := R8.cell
  obtain ⟨x8, y8, z8, rfl⟩ : ∃ x y z, v8 = .slice x y z := by obtain ⟨x, z, e, _⟩ := ho8.sl; exact ⟨_, _, _, e⟩
  simp(disch:=first|omega|(simp only[Wx];done)|(simp only[Wy];done)|(simp only[Wv];omega)|with_unfolding_all rfl)only[Wz,ptrTo,sliceTo, nil_at, c8]
  have eL : K.take i ++ [⟨t, r, 0, 0, .slice qx2 (Q ++ [P]).length qc2, W2, Q ++ [P]⟩] ++ K.drop i' = K.take i ++ ⟨t, r, 0, 0, .slice qx2 (Q ++ [P]).length qc2, W2, Q ++ [P]⟩ :: K.drop i' := by simp
  rw [eL] at ho8 em8
  have hqs : ∀ k' ∈ K.take i ++ ⟨t, r, 0, 0, .slice qx2 (Q ++ [P]).length qc2, W2, Q ++ [P]⟩ :: K.drop i', OwnR a h8 k'.q k'.Q := by
    intro k' hk'
    rcases List.mem_append.1 hk' with hk' | hk'
    · exact R8.qv k' (List.mem_of_mem_take hk')
    · rcases List.mem_cons.1 hk' with rfl | hk'
      · exact Own.base ((ho3.le le4).le le8) (by omega)
      · exact R8.qv k' (List.mem_of_mem_drop hk')
  have le38 := le4.trans le8
  have p8 := p3.le le38
  refine hkn _ _ _ hb hleast (R8.setL (Own.base ho8 (by omega)) em8 hqs) (p8.keep (Nat.le_refl _) rfl (T.get_updne _ _ ?_) (T.get_updne _ _ ?_)) ((fall3.trans (FrK.of_le (S := fun c => c = rb ∨ c = rl ∨ c = pb) le38) fun c _ x => x).trans (FrK.one (S := fun c => c = rb ∨ c = rl ∨ c = pb) (.inl rfl) _) fun c _ x => x) (NewB.own ho8 (by omega))
  · rintro rfl; exact cells_ty (by decide) (c8.symm.trans p8.cellp)
  · exact hnr
end
end Go.Proofs

namespace Go.Proofs
open Go.Vai Go.Clashes
def eraseX (r : R5) : R5 := ⟨r.id, 0, r.m, r.w, r.s⟩
theorem less_erase (Q : List R5) (r : R5) (o : Option Nat) : lessQ (Q.map eraseX) (eraseX r) o = lessQ Q r o := by
  cases o with
  | none => rfl
  | some b =>
    unfold lessQ
    simp only [List.getElem?_map]
    cases Q[b]? <;> rfl
theorem best_erase (Q : List R5) : ∀ k, best (Q.map eraseX) k = best Q k := by
  intro k
  induction k with
  | zero => rfl
  | succ k ih =>
    unfold best
    rw [List.getElem?_map, ih]
    cases Q[k]? with
    | none => rfl
    | some r =>
      show (if (upR (eraseX r) && lessQ (Q.map eraseX) (eraseX r) (best Q k)) = true then _ else _) = _
      rw [less_erase]; rfl
theorem first_erase (Q : List R5) : firstQ (Q.map eraseX) = firstQ Q := by
  unfold firstQ
  rw [List.length_map, best_erase, List.findIdx?_map]
  rfl
theorem fits_erase (Q : List R5) (r : R5) : fitsQ (Q.map eraseX) (eraseX r) = fitsQ Q r := by
  unfold fitsQ
  rw [List.any_map]
  rfl
theorem stuck_erase {Q : List R5} : stuckQ (Q.map eraseX) ↔ stuckQ Q := by
  constructor
  · intro h i r hf hr
    have := h i (eraseX r) (by rw [first_erase]; exact hf) (by rw [List.getElem?_map, hr]; rfl)
    rwa [fits_erase] at this
  · intro h i r hf hr
    rw [first_erase] at hf
    rw [List.getElem?_map] at hr
    cases hq : Q[i]? with
    | none => rw [hq] at hr; cases hr
    | some p =>
      rw [hq] at hr
      cases hr
      rw [fits_erase]
      exact h i p hf hq
theorem hand_erase {Q : List R5} {i : Nat} {p : R5} (hp : Q[i]? = some p) (x : Int) : (Q.set i (handR p x)).map eraseX = Q.map eraseX := by
  refine List.ext_getElem? fun k => ?_
  rw [List.getElem?_map, List.getElem?_map, List.getElem?_set]
  split
  · rename_i e; subst e
    rw [hp, if_pos (List.getElem?_eq_some_iff.1 hp).1]; rfl
  · rfl
theorem hand_stuck {Q : List R5} {i : Nat} {p : R5} (hp : Q[i]? = some p) (x : Int) (h : stuckQ Q) : stuckQ (Q.set i (handR p x)) := by
  rw [← stuck_erase, hand_erase hp, stuck_erase]; exact h
theorem at_id {Q : List R5} {W : Int} (v : VQ Q W) {i j : Nat} {p q : R5} (hi : Q[i]? = some p) (hj : Q[j]? = some q) (h : p.id = q.id) : i = j := by
  have G := pw_get.1 v.pair
  rcases Nat.lt_trichotomy i j with hl | hl | hl
  · exact absurd h (G i j p q hl hi hj).id
  · exact hl
  · exact absurd h.symm (G j i q p hl hj hi).id
structure BLk (h : Heap) (bb bm bp bl most : Nat) (M : List HE) (clock : Nat) (F : List Int) (B : List Bool) : Prop where
  is : BucketIs h bb bm bp bl most M clock F B
  ids : IdsIn M B
theorem IdsIn.uniq {M : List HE} {B : List Bool} (i : IdsIn M B) {e e' : HE} (he : e ∈ M) (he' : e' ∈ M) {p p' : R5} (hp : p ∈ e.Q) (hp' : p' ∈ e'.Q) (h : p.id = p'.id) : e = e' := by
  obtain ⟨X, hX⟩ := i
  have hnd := (List.nodup_append.1 ((hX.nodup_iff).2 (lent_nodup B))).1
  unfold idsM at hnd
  rw [List.Nodup, List.pairwise_flatMap] at hnd
  obtain ⟨i, hi⟩ := List.getElem?_of_mem he
  obtain ⟨j, hj⟩ := List.getElem?_of_mem he'
  have G := pw_get.1 hnd.2
  rcases Nat.lt_trichotomy i j with hl | hl | hl
  · exact absurd h (G i j e e' hl hi hj _ (List.mem_map.2 ⟨p, hp, rfl⟩) _ (List.mem_map.2 ⟨p', hp', rfl⟩))
  · subst hl; rw [hi] at hj; exact Option.some.inj hj
  · exact absurd h.symm (G j i e' e hl hj hi _ (List.mem_map.2 ⟨p', hp', rfl⟩) _ (List.mem_map.2 ⟨p, hp, rfl⟩))
theorem BSt.lk {h : Heap} {bb bm bp bl most cap N : Nat} {M : List HE} {clock : Nat} {F : List Int} {B : List Bool} (s : BSt h bb bm bp bl most cap N M clock F B) : BLk h bb bm bp bl most M clock F B := ⟨s.is, s.ids.sub⟩
section
variable {h h' : Heap} {bb bm bp bl most cap N : Nat} {M M' K : List HE} {clock clock' : Nat} {F F' : List Int} {B B' : List Bool}
theorem Like.same (s : BLk h bb bm bp bl most M clock F B) (l : Like M K) {e k : HE} (he : e ∈ M) (hk : k ∈ K) {d : Int} {p p0 : R5} (hf : findQ e.Q d = some p) (hf0 : findQ k.Q d = some p0) : k.t = e.t ∧ k.r = e.r ∧ k.w = e.w ∧ k.Q = e.Q ∧ p0 = p := by
  obtain ⟨e2, he2, h1, h2, h3, h4⟩ := l.each k hk
  rw [h4] at hf0
  have := s.ids.uniq he2 he (findQ_some hf0).1 (findQ_some hf).1 (by rw [(findQ_some hf0).2, (findQ_some hf).2])
  subst this
  rw [hf] at hf0
  exact ⟨h1, h2, h3, h4, (Option.some.inj hf0).symm⟩
theorem Like.none (s : BLk h bb bm bp bl most M clock F B) (l : Like M K) {d : Int} : (∀ e ∈ M, findQ e.Q d = none) ↔ ∀ k ∈ K, findQ k.Q d = none := by
  constructor
  · intro hn k hk
    obtain ⟨e2, he2, h1, h2, h3, h4⟩ := l.each k hk
    rw [h4]; exact hn e2 he2
  · intro hn e he
    obtain ⟨k, hk, h1, h2, h3, h4⟩ := l.of_mem s.is.ok he
    rw [← h4]; exact hn k hk
theorem Like.names (s : BLk h bb bm bp bl most M clock F B) (l : Like M K) {t r : Int} : (∀ e ∈ M, ¬ (t = e.t ∧ r = e.r)) ↔ ∀ k ∈ K, ¬ (t = k.t ∧ r = k.r) := by
  constructor
  · intro hn k hk
    obtain ⟨e2, he2, h1, h2, h3, h4⟩ := l.each k hk
    rw [h1, h2]; exact hn e2 he2
  · intro hn e he
    obtain ⟨k, hk, h1, h2, h3, h4⟩ := l.of_mem s.is.ok he
    rw [← h1, ← h2]; exact hn k hk
theorem Like.ended (s : BLk h bb bm bp bl most M clock F B) (l : Like M K) {K' : List HE} {i : Nat} {e k : HE} {w w' : Int} {Q Q' : List R5} (st : Settled M M' e.t e.r w Q) (hi : K[i]? = some k) (ht : k.t = e.t) (hr : k.r = e.r) (hw : w' = w) (hQ : Q' = Q) (en : EndOf K K' i k w' Q') : Like M' K' := by
  subst hw hQ
  rcases en with ⟨h0, rfl⟩ | ⟨h0, k', g1, g2, g3, g4, rfl⟩
  · subst h0
    exact l.erase s.is.ok st hi ht hr
  · exact l.set s.is.ok st h0 hi ht hr ⟨g1.trans ht, g2.trans hr, g3, g4⟩
theorem Like.putAt (s : BLk h bb bm bp bl most M clock F B) (l : Like M K) {i : Nat} {e k k' : HE} {w : Int} {Q : List R5} (st : Settled M M' e.t e.r w (scanQ (cntW Q + 1) Q).1) (hs : stuckQ Q) (h0 : Q ≠ []) (hi : K[i]? = some k) (ht : k.t = e.t) (hr : k.r = e.r) (hk : k'.t = k.t ∧ k'.r = k.r ∧ k'.w = w ∧ k'.Q = Q) : Like M' (K.set i k') := by
  rw [scan_end hs] at st
  exact l.set s.is.ok st h0 hi ht hr ⟨hk.1.trans ht, hk.2.1.trans hr, hk.2.2.1, hk.2.2.2⟩
theorem set_nil {α : Type} {Q : List α} {i : Nat} {p q : α} (h : Q[i]? = some p) : Q.set i q ≠ [] := by
  intro e
  have := congrArg List.length e
  rw [List.length_set, List.length_nil] at this
  have := (List.getElem?_eq_some_iff.1 h).1
  omega
theorem asked_stuck (s : BLk h bb bm bp bl most M clock F B) {t r w : Int} {Q : List R5} (hold : (∃ e ∈ M, e.t = t ∧ e.r = r ∧ e.Q = Q ∧ e.w = w) ∨ ((∀ e ∈ M, ¬ (t = e.t ∧ r = e.r)) ∧ M.length < most ∧ Q = [] ∧ w = 0)) : stuckQ Q := by
  rcases hold with ⟨e, he, _, _, rfl, _⟩ | ⟨_, _, rfl, _⟩
  · exact (s.is.good e he).stuck
  · intro i r hf hr; simp at hr
theorem Like.asked (s : BLk h bb bm bp bl most M clock F B) (l : Like M K) {t r x m : Int} {n : Nat} {g : Bool} (am : askedM m = true) (a : Asked h h' bb bm bp bl most M M' clock' F F' B t r x m n g) {i : Nat} {k : HE} (hi : K[i]? = some k) (ht : k.t = t) (hr : k.r = r) :
    g = (askR k.Q k.w n x m).2.2 ∧ ∀ k' : HE, k'.t = t ∧ k'.r = r ∧ k'.w = (askR k.Q k.w n x m).2.1 ∧ k'.Q = k.Q ++ [(askR k.Q k.w n x m).1] → Like M' (K.set i k') := by
  obtain ⟨Q, w, hold, vq, vq', hg, hset⟩ := a.set
  rw [scan_end (ask_stuck vq (asked_stuck s hold) am)] at hset
  obtain ⟨e2, he2, h1, h2, h3, h4⟩ := l.each k (List.mem_of_getElem? hi)
  rcases hold with ⟨e, he, e1, e3, e4, e5⟩ | ⟨hn, _, _, _⟩
  · have := s.is.ok.uniq he he2 (by rw [e1, ← h1, ht]) (by rw [e3, ← h2, hr])
    subst this
    rw [e4] at h4
    rw [e5] at h3
    subst h3 h4
    exact ⟨hg, fun k' hk' => l.set s.is.ok hset (by simp) hi ht hr hk'⟩
  · exact absurd ⟨by rw [← h1, ht], by rw [← h2, hr]⟩ (hn e2 he2)
theorem Like.askedN (s : BLk h bb bm bp bl most M clock F B) (l : Like M K) {t r x m : Int} {n : Nat} {g : Bool} (am : askedM m = true) (a : Asked h h' bb bm bp bl most M M' clock' F F' B t r x m n g) (hno : ∀ k ∈ K, ¬ (t = k.t ∧ r = k.r)) {i : Nat}
    (h1 : ∀ (j : Nat) (a : HE), j < i → K[j]? = some a → ltN (nmOf a) (t, r)) (h2 : ∀ (j : Nat) (a : HE), i ≤ j → K[j]? = some a → ltN (t, r) (nmOf a)) :
    g = (askR [] 0 n x m).2.2 ∧ ∀ k' : HE, k'.t = t ∧ k'.r = r ∧ k'.w = (askR [] 0 n x m).2.1 ∧ k'.Q = [] ++ [(askR [] 0 n x m).1] → Like M' (K.take i ++ k' :: K.drop i) := by
  obtain ⟨Q, w, hold, vq, vq', hg, hset⟩ := a.set
  rw [scan_end (ask_stuck vq (asked_stuck s hold) am)] at hset
  have hno' := (l.names s).2 hno
  rcases hold with ⟨e, he, e1, e3, e4, e5⟩ | ⟨hn, _, e4, e5⟩
  · exact absurd ⟨e1.symm, e3.symm⟩ (hno' e he)
  · subst e4 e5
    exact ⟨hg, fun k' hk' => l.ins hset (by simp) hno' hk' h1 h2⟩
end
end Go.Proofs
