/-
  PROVED HERE: a part of the proof, by a calculus of weakest conditions over an abstract heap (DS, DS2).
-/
import Derived.Test.YtmjghbjpdoeemaaDoorKA
set_option linter.unusedVariables false
set_option linter.unusedSimpArgs false
set_option maxRecDepth 100000
set_option maxHeartbeats 1000000
set_option maxHeartbeats 4000000
namespace Go.Proofs
open Go.Vai Go.Clashes
structure L4 where
  x : Int
  t : Int
  r : Int
  m : Int
def encL (a : L4) : List Value := [.int .i64 a.x, .int .i64 a.t, .int .i64 a.r, .int .i64 a.m]
theorem encL_len (a : L4) : (encL a).length = 4 := rfl
theorem encL_one (a : L4) : (encL a).all oneC = true := rfl
structure SB (b n : Nat) (h h' : Heap) : Prop where
  le : LeS b h h'
  g : ∃ D : List L4, D.length = n ∧ h'.bl.get b = some (cellsO (D.flatMap encL) 50 true)
abbrev sliL (b n : Nat) : Value := .slice (some ⟨b, 0, none⟩) n openCap
def CmpOk (fv : Value) : Prop := ∀ (p q : L4) (h : Heap) (κ : Value → Heap → Prop), (∀ r, κ (.int .i64 r) h) → CallV Tryd.prog fv [.agg ⟨encL p⟩, .agg ⟨encL q⟩] h κ
theorem conv_u (k : Nat) {β : Type} {fl : β} (h : Heap) (κ : Value → Heap → β) (hk : k ≤ 1000000000) : convI fl .u64 (.int .i64 (k : Int)) h κ = κ (.int .u64 (k : Int)) h := by
  have e : wrapB .u64 (k : Int) = (k : Int) := by
    show Int.ofNat (Nat.mod k 18446744073709551616) = _
    rw [show Nat.mod k 18446744073709551616 = k % 18446744073709551616 from rfl, Nat.mod_eq_of_lt (by omega)]
    rfl
  simp only [convI, fiK_eq, e]
theorem conv_i (k : Nat) {β : Type} {fl : β} (h : Heap) (κ : Value → Heap → β) (hk : k ≤ 1000000000) : convI fl .i64 (.int .u64 (k : Int)) h κ = κ (.int .i64 (k : Int)) h := by
  have e : wrapB .i64 (k : Int) = (k : Int) := by
    rw [wrapB_eq]
    exact wrap_id _ (by omega)
  simp only [convI, fiK_eq, e]
theorem shr_1 (P : Program) (t : TypeId) (cn gd : Bool) (k : Nat) {β : Type} {fl : β} (h : Heap) (κ : Value → Heap → β) : binB fl P .shr t cn gd (.int .u64 (k : Int)) (.int .u64 1) h κ = κ (.int .u64 ((k / 2 : Nat) : Int)) h := by
  have e : ((k : Int).fdiv (2 ^ (min (1 : Int).toNat IntKind.u64.bits))) = ((k / 2 : Nat) : Int) := by
    have : (min (1 : Int).toNat IntKind.u64.bits) = 1 := by decide
    rw [this, Int.fdiv_eq_ediv_of_nonneg _ (by decide)]
    omega
  have e2 : iltB (1 : Int) 0 = false := by decide
  simp only [binB, kindEq, intB, fiK_eq, e2, e]
section
variable {b n : Nat} {h0 : Heap} {fv : Value}
theorem SB.set {h : Heap} (s : SB b n h0 h) {i : Nat} {D : List L4} (hD : D.length = n) (hg : h.bl.get b = some (cellsO (D.flatMap encL) 50 true)) (i j : Nat) (x y : L4) : SB b n h0 ⟨h.nx, h.bl.upd b (cellsO (((D.set i x).set j y).flatMap encL) 50 true), h.lo⟩ :=
  ⟨s.le.trans (LeS.set (Le.refl h) _), _, by rw [List.length_set, List.length_set]; exact hD, T.get_upd_same _ _ _⟩
theorem isortL_w (hbn : b < h0.nx) (hbl : h0.lo ≤ b) (hn : n ≤ 100000) (hC : CmpOk fv) {h : Heap} (s : SB b n h0 h) (a e : Nat) (he : e ≤ n) (ha : a ≤ n) (κ : Value → Heap → Prop) (hk : ∀ h', SB b n h0 h' → κ (.tuple ⟨[]⟩) h') :
    CallW Tryd.prog 34 [sliL b n, .int .i64 (a : Int), .int .i64 (e : Int), fv] h κ := by
  refine callW_of mixed ?_
  rw [rs_34]
  simp(disch:=first|omega|(simp only[Wx];done)|(simp only[Wy];done)|(simp only[Wv];omega)|with_unfolding_all rfl)only[Wz,ptrTo,sliceTo]
  refine ⟨fun k l h1 => ∃ i : Nat, slot l 42 = .int .i64 (i : Int) ∧ a + 1 ≤ i ∧ k = e - i ∧ SB b n h0 h1, ⟨_, a + 1, by rw [slot]; rfl, Nat.le_refl _, rfl, s⟩, ?_⟩
  rintro k l h1 ⟨i, s1, hi1, rfl, sb1⟩
  by_cases hlt : i < e
  · simp(disch:=first|omega|(simp only[Wx];done)|(simp only[Wy];done)|(simp only[Wv];omega)|with_unfolding_all rfl)only[Wz,ptrTo,sliceTo, s1, lt_t (show (i : Int) < (e : Int) by omega)]
    refine ⟨fun k l5 h5 => ∃ j : Nat, slot l5 35 = .int .i64 (j : Int) ∧ a ≤ j ∧ j < n ∧ k = j ∧ SB b n h0 h5, ⟨_, i, rfl, by omega, by omega, rfl, sb1⟩, ?_⟩
    rintro k l5 h5 ⟨j, s5, hja, hjn, rfl, sb5⟩
    have n5 := sb5.le.nx
    have l5' := sb5.le.lo
    by_cases hj0 : a < k
    · obtain ⟨j, rfl⟩ : ∃ j, k = j + 1 := ⟨k - 1, by omega⟩
      have e1 : ((j + 1 : Nat) : Int) - 1 = (j : Nat) := by omega
      obtain ⟨D, hD, g5⟩ := sb5.g
      obtain ⟨x, hx⟩ : ∃ x, D[j + 1]? = some x := ⟨_, List.getElem?_eq_getElem (by omega)⟩
      obtain ⟨y, hy⟩ : ∃ y, D[j]? = some y := ⟨_, List.getElem?_eq_getElem (by omega)⟩
      have r1 := rdE encL_len g5 hx
      have r2 := rdE encL_len g5 hy
      simp(disch:=first|omega|(simp only[Wx];done)|(simp only[Wy];done)|(simp only[Wv];omega)|with_unfolding_all rfl)only[Wz,ptrTo,sliceTo, rs_34_1, s5, e1, lt_t (show (a : Int) < ((j + 1 : Nat) : Int) by omega), indexAddr_eq, r1, r2]
      refine hC x y h5 _ fun r => ?_
      by_cases hc : r < 0
      · have ho1 := over_set encL_len (p' := y) hx
        have hy2 : (D.set (j + 1) y)[j]? = some y := by rw [List.getElem?_set, if_neg (by omega)]; exact hy
        have ho2 := over_set encL_len (p' := x) hy2
        have hf1 := flat_length encL_len D
        have hf2 := flat_length encL_len (D.set (j + 1) y)
        rw [List.length_set] at hf2
        simp only [encL] at ho1 ho2
        simp(disch:=first|omega|(simp only[Wx];done)|(simp only[Wy];done)|(simp only[Wv];omega)|with_unfolding_all rfl)only[Wz,ptrTo,sliceTo, dec_t hc, rs_34_0, s5, e1, indexAddr_eq, r1, r2, encL]
        simp(disch:=first|omega|(simp only[Wx];done)|(simp only[Wy];done)|(simp only[Wv];omega)|with_unfolding_all rfl)only[Wz,ptrTo,sliceTo, g5, ho1, ho2]
        exact ⟨_, by omega, j, rfl, by omega, by omega, rfl, sb5.set (i := 0) hD g5 (j + 1) j y x⟩
      · simp(disch:=first|omega|(simp only[Wx];done)|(simp only[Wy];done)|(simp only[Wv];omega)|with_unfolding_all rfl)only[Wz,ptrTo,sliceTo, dec_f hc, s1]
        exact ⟨_, by omega, i + 1, rfl, by omega, rfl, sb5⟩
    · simp(disch:=first|omega|(simp only[Wx];done)|(simp only[Wy];done)|(simp only[Wv];omega)|with_unfolding_all rfl)only[Wz,ptrTo,sliceTo, rs_34_1, s5, lt_f (show (k : Int) ≤ (a : Int) by omega), s1]
      exact ⟨_, by omega, i + 1, rfl, by omega, rfl, sb5⟩
  · simp(disch:=first|omega|(simp only[Wx];done)|(simp only[Wy];done)|(simp only[Wv];omega)|with_unfolding_all rfl)only[Wz,ptrTo,sliceTo, s1, lt_f (show (e : Int) ≤ (i : Int) by omega)]
    exact hk h1 sb1
theorem swapR_w (hbn : b < h0.nx) (hbl : h0.lo ≤ b) (hn : n ≤ 100000) {h : Heap} (s : SB b n h0 h) (a c k : Nat) (ha : a + k ≤ n) (hc : c + k ≤ n) (κ : Value → Heap → Prop) (hk : ∀ h', SB b n h0 h' → κ (.tuple ⟨[]⟩) h') :
    CallW Tryd.prog 39 [sliL b n, .int .i64 (a : Int), .int .i64 (c : Int), .int .i64 (k : Int), fv] h κ := by
  refine callW_of mixed ?_
  rw [rs_39]
  refine ⟨fun m l h1 => ∃ i : Nat, slot l 27 = .int .i64 (i : Int) ∧ m = k - i ∧ SB b n h0 h1, ⟨_, 0, rfl, rfl, s⟩, ?_⟩
  rintro m l h1 ⟨i, s1, rfl, sb1⟩
  have n1 := sb1.le.nx
  have l1 := sb1.le.lo
  by_cases hlt : i < k
  · have e1 : ((a : Int) + (i : Int)) = ((a + i : Nat) : Int) := by omega
    have e2 : ((c : Int) + (i : Int)) = ((c + i : Nat) : Int) := by omega
    obtain ⟨D, hD, g5⟩ := sb1.g
    obtain ⟨x, hx⟩ : ∃ x, D[a + i]? = some x := ⟨_, List.getElem?_eq_getElem (by omega)⟩
    obtain ⟨y, hy⟩ : ∃ y, D[c + i]? = some y := ⟨_, List.getElem?_eq_getElem (by omega)⟩
    have r1 := rdE encL_len g5 hx
    have r2 := rdE encL_len g5 hy
    have ho1 := over_set encL_len (p' := y) hx
    obtain ⟨z, hz⟩ : ∃ z, (D.set (a + i) y)[c + i]? = some z := ⟨_, List.getElem?_eq_getElem (by rw [List.length_set]; omega)⟩
    have ho2 := over_set encL_len (p' := x) hz
    have hf1 := flat_length encL_len D
    have hf2 := flat_length encL_len (D.set (a + i) y)
    rw [List.length_set] at hf2
    simp only [encL] at ho1 ho2
    simp(disch:=first|omega|(simp only[Wx];done)|(simp only[Wy];done)|(simp only[Wv];omega)|with_unfolding_all rfl)only[Wz,ptrTo,sliceTo, s1, lt_t (show (i : Int) < (k : Int) by omega), rs_39_0, e1, e2, indexAddr_eq, r1, r2, encL]
    simp(disch:=first|omega|(simp only[Wx];done)|(simp only[Wy];done)|(simp only[Wv];omega)|with_unfolding_all rfl)only[Wz,ptrTo,sliceTo, g5, ho1, ho2]
    exact ⟨_, by omega, i + 1, rfl, rfl, sb1.set (i := 0) hD g5 (a + i) (c + i) y x⟩
  · simp(disch:=first|omega|(simp only[Wx];done)|(simp only[Wy];done)|(simp only[Wv];omega)|with_unfolding_all rfl)only[Wz,ptrTo,sliceTo, s1, lt_f (show (k : Int) ≤ (i : Int) by omega)]
    exact hk h1 sb1
theorem rotate_w (hbn : b < h0.nx) (hbl : h0.lo ≤ b) (hn : n ≤ 100000) {h : Heap} (s : SB b n h0 h) (a m e : Nat) (h1 : a < m) (h2 : m < e) (he : e ≤ n) (κ : Value → Heap → Prop) (hk : ∀ h', SB b n h0 h' → κ (.tuple ⟨[]⟩) h') :
    CallW Tryd.prog 37 [sliL b n, .int .i64 (a : Int), .int .i64 (m : Int), .int .i64 (e : Int), fv] h κ := by
  refine callW_of mixed ?_
  rw [rs_37]
  have e1 : ((m : Int) - (a : Int)) = ((m - a : Nat) : Int) := by omega
  have e2 : ((e : Int) - (m : Int)) = ((e - m : Nat) : Int) := by omega
  simp(disch:=first|omega|(simp only[Wx];done)|(simp only[Wy];done)|(simp only[Wv];omega)|with_unfolding_all rfl)only[Wz,ptrTo,sliceTo, e1, e2]
  refine ⟨fun k l h1 => ∃ i j : Nat, slot l 17 = .int .i64 (i : Int) ∧ slot l 33 = .int .i64 (j : Int) ∧ 1 ≤ i ∧ 1 ≤ j ∧ i + a ≤ m ∧ m + j ≤ e ∧ k = i + j ∧ SB b n h0 h1, ⟨_, m - a, e - m, rfl, rfl, by omega, by omega, by omega, by omega, rfl, s⟩, ?_⟩
  rintro k l h3 ⟨i, j, s1, s2, hi, hj, him, hje, rfl, sb⟩
  have e3 : ((m : Int) - (i : Int)) = ((m - i : Nat) : Int) := by omega
  by_cases hij : i = j
  · subst hij
    simp(disch:=first|omega|(simp only[Wx];done)|(simp only[Wy];done)|(simp only[Wv];omega)|with_unfolding_all rfl)only[Wz,ptrTo,sliceTo, s1, s2, e3]
    refine swapR_w hbn hbl hn sb (m - i) m i (by omega) (by omega) _ ?_
    intro h4 sb4
    exact hk h4 sb4
  · have hne : ¬ (i : Int) = (j : Int) := by omega
    simp(disch:=first|omega|(simp only[Wx];done)|(simp only[Wy];done)|(simp only[Wv];omega)|with_unfolding_all rfl)only[Wz,ptrTo,sliceTo, s1, s2, dec_f hne, rs_37_0]
    by_cases hgt : j < i
    · simp(disch:=first|omega|(simp only[Wx];done)|(simp only[Wy];done)|(simp only[Wv];omega)|with_unfolding_all rfl)only[Wz,ptrTo,sliceTo, lt_t (show (j : Int) < (i : Int) by omega), e3]
      refine swapR_w hbn hbl hn sb (m - i) m j (by omega) (by omega) _ ?_
      intro h4 sb4
      have e4 : ((i : Int) - (j : Int)) = ((i - j : Nat) : Int) := by omega
      simp(disch:=first|omega|(simp only[Wx];done)|(simp only[Wy];done)|(simp only[Wv];omega)|with_unfolding_all rfl)only[Wz,ptrTo,sliceTo, e4, s1, s2]
      exact ⟨_, by omega, i - j, j, rfl, by first | rfl | exact s2, by omega, by omega, by omega, by omega, rfl, sb4⟩
    · have e5 : ((m : Int) + (j : Int) - (i : Int)) = ((m + j - i : Nat) : Int) := by omega
      simp(disch:=first|omega|(simp only[Wx];done)|(simp only[Wy];done)|(simp only[Wv];omega)|with_unfolding_all rfl)only[Wz,ptrTo,sliceTo, lt_f (show (i : Int) ≤ (j : Int) by omega), e3, e5]
      refine swapR_w hbn hbl hn sb (m - i) (m + j - i) i (by omega) (by omega) _ ?_
      intro h4 sb4
      have e4 : ((j : Int) - (i : Int)) = ((j - i : Nat) : Int) := by omega
      simp(disch:=first|omega|(simp only[Wx];done)|(simp only[Wy];done)|(simp only[Wv];omega)|with_unfolding_all rfl)only[Wz,ptrTo,sliceTo, e4, s1, s2]
      exact ⟨_, by omega, i, j - i, by first | rfl | exact s1, rfl, by omega, by omega, by omega, by omega, rfl, sb4⟩
end
end Go.Proofs

namespace Go.Proofs
open Go.Vai Go.Clashes
section
variable {b n : Nat} {h0 : Heap} {fv : Value}
theorem symMerge_w (hbn : b < h0.nx) (hbl : h0.lo ≤ b) (hn : n ≤ 100000) (hC : CmpOk fv) : ∀ (sz : Nat) {h : Heap} (s : SB b n h0 h) (a m e : Nat), e - a ≤ sz → a < m → m < e → e ≤ n → ∀ (κ : Value → Heap → Prop), (∀ h', SB b n h0 h' → κ (.tuple ⟨[]⟩) h') →
    CallW Tryd.prog 35 [sliL b n, .int .i64 (a : Int), .int .i64 (m : Int), .int .i64 (e : Int), fv] h κ := by
  intro sz
  induction sz with
  | zero => intro h s a m e h1 h2 h3; omega
  | succ sz ih =>
    intro h s a m e hsz h1 h2 he κ hk
    refine callW_of mixed ?_
    rw [rs_35]
    by_cases c1 : m - a = 1
    · simp(disch:=first|omega|(simp only[Wx];done)|(simp only[Wy];done)|(simp only[Wv];omega)|with_unfolding_all rfl)only[Wz,ptrTo,sliceTo, dec_t (show (m : Int) - (a : Int) = 1 by omega)]
      refine ⟨fun k l h1 => ∃ i j : Nat, slot l 23 = .int .i64 (i : Int) ∧ slot l 25 = .int .i64 (j : Int) ∧ m ≤ i ∧ i ≤ j ∧ j ≤ e ∧ k = j - i ∧ SB b n h0 h1, ⟨_, m, e, rfl, rfl, by omega, by omega, by omega, rfl, s⟩, ?_⟩
      rintro k l h3 ⟨i, j, s1, s2, hi, hij, hje, rfl, sb⟩
      by_cases hlt : i < j
      · have ea : ((i : Int) + (j : Int)) = ((i + j : Nat) : Int) := by omega
        obtain ⟨D, hD, g5⟩ := sb.g
        obtain ⟨x, hx⟩ : ∃ x, D[(i + j) / 2]? = some x := ⟨_, List.getElem?_eq_getElem (by omega)⟩
        obtain ⟨y, hy⟩ : ∃ y, D[a]? = some y := ⟨_, List.getElem?_eq_getElem (by omega)⟩
        have r1 := rdE encL_len g5 hx
        have r2 := rdE encL_len g5 hy
        simp(disch:=first|omega|(simp only[Wx];done)|(simp only[Wy];done)|(simp only[Wv];omega)|with_unfolding_all rfl)only[Wz,ptrTo,sliceTo, rs_35_2, s1, s2, lt_t (show (i : Int) < (j : Int) by omega), rs_35_1, ea, conv_u, shr_1, conv_i, indexAddr_eq, r1, r2]
        refine hC x y h3 _ fun r => ?_
        by_cases hc : r < 0
        · simp(disch:=first|omega|(simp only[Wx];done)|(simp only[Wy];done)|(simp only[Wv];omega)|with_unfolding_all rfl)only[Wz,ptrTo,sliceTo, dec_t hc]
          exact ⟨_, by omega, (i + j) / 2 + 1, j, rfl, rfl, by omega, by omega, by omega, rfl, sb⟩
        · simp(disch:=first|omega|(simp only[Wx];done)|(simp only[Wy];done)|(simp only[Wv];omega)|with_unfolding_all rfl)only[Wz,ptrTo,sliceTo, dec_f hc]
          exact ⟨_, by omega, i, (i + j) / 2, by first | rfl | exact s1, rfl, by omega, by omega, by omega, rfl, sb⟩
      · simp(disch:=first|omega|(simp only[Wx];done)|(simp only[Wy];done)|(simp only[Wv];omega)|with_unfolding_all rfl)only[Wz,ptrTo,sliceTo, rs_35_2, s1, s2, lt_f (show (j : Int) ≤ (i : Int) by omega)]
        refine ⟨fun k l h1 => ∃ q : Nat, slot l 22 = .int .i64 (q : Int) ∧ k = i - q ∧ SB b n h0 h1, ⟨_, a, rfl, rfl, sb⟩, ?_⟩
        rintro k l2 h4 ⟨q, s4, rfl, sb4⟩
        have n4 := sb4.le.nx
        have l4 := sb4.le.lo
        have ei : ((i : Int) - 1) = ((i - 1 : Nat) : Int) := by omega
        by_cases hq : q < i - 1
        · have e1 : ((q : Int) + 1) = ((q + 1 : Nat) : Int) := by omega
          obtain ⟨D, hD, g5⟩ := sb4.g
          obtain ⟨x, hx⟩ : ∃ x, D[q]? = some x := ⟨_, List.getElem?_eq_getElem (by omega)⟩
          obtain ⟨y, hy⟩ : ∃ y, D[q + 1]? = some y := ⟨_, List.getElem?_eq_getElem (by omega)⟩
          have r1 := rdE encL_len g5 hx
          have r2 := rdE encL_len g5 hy
          have ho1 := over_set encL_len (p' := y) hx
          have hy2 : (D.set q y)[q + 1]? = some y := by rw [List.getElem?_set, if_neg (by omega)]; exact hy
          have ho2 := over_set encL_len (p' := x) hy2
          have hf1 := flat_length encL_len D
          have hf2 := flat_length encL_len (D.set q y)
          rw [List.length_set] at hf2
          simp only [encL] at ho1 ho2
          simp(disch:=first|omega|(simp only[Wx];done)|(simp only[Wy];done)|(simp only[Wv];omega)|with_unfolding_all rfl)only[Wz,ptrTo,sliceTo, s1, s4, ei, lt_t (show (q : Int) < ((i - 1 : Nat) : Int) by omega), rs_35_0, e1, indexAddr_eq, r1, r2, encL]
          simp(disch:=first|omega|(simp only[Wx];done)|(simp only[Wy];done)|(simp only[Wv];omega)|with_unfolding_all rfl)only[Wz,ptrTo,sliceTo, g5, ho1, ho2]
          exact ⟨_, by omega, q + 1, by first | rfl | (rw [e1]; rfl), rfl, sb4.set (i := 0) hD g5 q (q + 1) y x⟩
        · simp(disch:=first|omega|(simp only[Wx];done)|(simp only[Wy];done)|(simp only[Wv];omega)|with_unfolding_all rfl)only[Wz,ptrTo,sliceTo, s1, s4, ei, lt_f (show ((i - 1 : Nat) : Int) ≤ (q : Int) by omega)]
          exact hk h4 sb4
    by_cases c2 : e - m = 1
    · simp(disch:=first|omega|(simp only[Wx];done)|(simp only[Wy];done)|(simp only[Wv];omega)|with_unfolding_all rfl)only[Wz,ptrTo,sliceTo, dec_f (show ¬ (m : Int) - (a : Int) = 1 by omega), dec_t (show (e : Int) - (m : Int) = 1 by omega)]
      refine ⟨fun k l h1 => ∃ i j : Nat, slot l 24 = .int .i64 (i : Int) ∧ slot l 26 = .int .i64 (j : Int) ∧ a ≤ i ∧ i ≤ j ∧ j ≤ m ∧ k = j - i ∧ SB b n h0 h1, ⟨_, a, m, rfl, rfl, by omega, by omega, by omega, rfl, s⟩, ?_⟩
      rintro k l h3 ⟨i, j, s1, s2, hi, hij, hje, rfl, sb⟩
      by_cases hlt : i < j
      · have ea : ((i : Int) + (j : Int)) = ((i + j : Nat) : Int) := by omega
        obtain ⟨D, hD, g5⟩ := sb.g
        obtain ⟨x, hx⟩ : ∃ x, D[(i + j) / 2]? = some x := ⟨_, List.getElem?_eq_getElem (by omega)⟩
        obtain ⟨y, hy⟩ : ∃ y, D[m]? = some y := ⟨_, List.getElem?_eq_getElem (by omega)⟩
        have r1 := rdE encL_len g5 hx
        have r2 := rdE encL_len g5 hy
        simp(disch:=first|omega|(simp only[Wx];done)|(simp only[Wy];done)|(simp only[Wv];omega)|with_unfolding_all rfl)only[Wz,ptrTo,sliceTo, rs_35_5, s1, s2, lt_t (show (i : Int) < (j : Int) by omega), rs_35_4, ea, conv_u, shr_1, conv_i, indexAddr_eq, r1, r2]
        refine hC y x h3 _ fun r => ?_
        by_cases hc : r < 0
        · simp(disch:=first|omega|(simp only[Wx];done)|(simp only[Wy];done)|(simp only[Wv];omega)|with_unfolding_all rfl)only[Wz,ptrTo,sliceTo, dec_t hc]
          exact ⟨_, by omega, i, (i + j) / 2, by first | rfl | exact s1, rfl, by omega, by omega, by omega, rfl, sb⟩
        · simp(disch:=first|omega|(simp only[Wx];done)|(simp only[Wy];done)|(simp only[Wv];omega)|with_unfolding_all rfl)only[Wz,ptrTo,sliceTo, dec_f hc]
          exact ⟨_, by omega, (i + j) / 2 + 1, j, rfl, rfl, by omega, by omega, by omega, rfl, sb⟩
      · simp(disch:=first|omega|(simp only[Wx];done)|(simp only[Wy];done)|(simp only[Wv];omega)|with_unfolding_all rfl)only[Wz,ptrTo,sliceTo, rs_35_5, s1, s2, lt_f (show (j : Int) ≤ (i : Int) by omega)]
        refine ⟨fun k l h1 => ∃ q : Nat, slot l 21 = .int .i64 (q : Int) ∧ q ≤ m ∧ k = q ∧ SB b n h0 h1, ⟨_, m, rfl, Nat.le_refl _, rfl, sb⟩, ?_⟩
        rintro k l2 h4 ⟨q, s4, hqm, rfl, sb4⟩
        have n4 := sb4.le.nx
        have l4 := sb4.le.lo
        by_cases hq : i < k
        · obtain ⟨q, rfl⟩ : ∃ q, k = q + 1 := ⟨k - 1, by omega⟩
          have e1 : ((q + 1 : Nat) : Int) - 1 = (q : Nat) := by omega
          obtain ⟨D, hD, g5⟩ := sb4.g
          obtain ⟨x, hx⟩ : ∃ x, D[q + 1]? = some x := ⟨_, List.getElem?_eq_getElem (by omega)⟩
          obtain ⟨y, hy⟩ : ∃ y, D[q]? = some y := ⟨_, List.getElem?_eq_getElem (by omega)⟩
          have r1 := rdE encL_len g5 hx
          have r2 := rdE encL_len g5 hy
          have ho1 := over_set encL_len (p' := y) hx
          have hy2 : (D.set (q + 1) y)[q]? = some y := by rw [List.getElem?_set, if_neg (by omega)]; exact hy
          have ho2 := over_set encL_len (p' := x) hy2
          have hf1 := flat_length encL_len D
          have hf2 := flat_length encL_len (D.set (q + 1) y)
          rw [List.length_set] at hf2
          simp only [encL] at ho1 ho2
          simp(disch:=first|omega|(simp only[Wx];done)|(simp only[Wy];done)|(simp only[Wv];omega)|with_unfolding_all rfl)only[Wz,ptrTo,sliceTo, s1, s4, lt_t (show (i : Int) < ((q + 1 : Nat) : Int) by omega), rs_35_3, e1, indexAddr_eq, r1, r2, encL]
          simp(disch:=first|omega|(simp only[Wx];done)|(simp only[Wy];done)|(simp only[Wv];omega)|with_unfolding_all rfl)only[Wz,ptrTo,sliceTo, g5, ho1, ho2]
          exact ⟨_, by omega, q, rfl, by omega, rfl, sb4.set (i := 0) hD g5 (q + 1) q y x⟩
        · simp(disch:=first|omega|(simp only[Wx];done)|(simp only[Wy];done)|(simp only[Wv];omega)|with_unfolding_all rfl)only[Wz,ptrTo,sliceTo, s1, s4, lt_f (show (k : Int) ≤ (i : Int) by omega)]
          exact hk h4 sb4
    have ea : ((a : Int) + (e : Int)) = ((a + e : Nat) : Int) := by omega
    have em : (((a + e) / 2 : Nat) : Int) + (m : Int) = (((a + e) / 2 + m : Nat) : Int) := by omega
    obtain ⟨mid, hmid⟩ : ∃ mid, mid = (a + e) / 2 := ⟨_, rfl⟩
    simp(disch:=first|omega|(simp only[Wx];done)|(simp only[Wy];done)|(simp only[Wv];omega)|with_unfolding_all rfl)only[Wz,ptrTo,sliceTo, dec_f (show ¬ (m : Int) - (a : Int) = 1 by omega), dec_f (show ¬ (e : Int) - (m : Int) = 1 by omega), rs_35_11, ea, conv_u, shr_1, conv_i, em]
    rw [← hmid]
    refine ⟨fun l h' => HQ h h' ∧ ∃ st r : Nat, slot l 8 = .int .i64 (st : Int) ∧ slot l 10 = .int .i64 (r : Int) ∧ ((mid < m ∧ st + e = mid + m ∧ r = mid) ∨ (m ≤ mid ∧ st = a ∧ r = m)), ?_, ?_⟩
    · by_cases c3 : mid < m
      · have e3 : ((mid + m : Nat) : Int) - (e : Int) = ((mid + m - e : Nat) : Int) := by omega
        simp(disch:=first|omega|(simp only[Wx];done)|(simp only[Wy];done)|(simp only[Wv];omega)|with_unfolding_all rfl)only[Wz,ptrTo,sliceTo, lt_t (show (mid : Int) < (m : Int) by omega), e3]
        exact ⟨rfl, mid + m - e, mid, rfl, rfl, .inl ⟨c3, by omega, rfl⟩⟩
      · simp(disch:=first|omega|(simp only[Wx];done)|(simp only[Wy];done)|(simp only[Wv];omega)|with_unfolding_all rfl)only[Wz,ptrTo,sliceTo, lt_f (show (m : Int) ≤ (mid : Int) by omega)]
        exact ⟨rfl, a, m, rfl, rfl, .inr ⟨by omega, rfl, rfl⟩⟩
    rintro l94 h' ⟨hq, st, r, s8, s10, hst⟩
    cases (show h = h' from hq)
    have ep : ((mid + m : Nat) : Int) - 1 = ((mid + m - 1 : Nat) : Int) := by omega
    simp(disch:=first|omega|(simp only[Wx];done)|(simp only[Wy];done)|(simp only[Wv];omega)|with_unfolding_all rfl)only[Wz,ptrTo,sliceTo, ep, s8, s10]
    refine ⟨fun k l h1 => ∃ i j : Nat, slot l 26 = .int .i64 (i : Int) ∧ slot l 28 = .int .i64 (j : Int) ∧ st ≤ i ∧ i ≤ j ∧ j ≤ r ∧ k = j - i ∧ SB b n h0 h1, ⟨_, st, r, by first | rfl | exact s8, by first | rfl | exact s10, by omega, by omega, by omega, rfl, s⟩, ?_⟩
    rintro k l h3 ⟨i, j, s1, s2, hi, hij, hje, rfl, sb⟩
    by_cases hlt : i < j
    · have ea : ((i : Int) + (j : Int)) = ((i + j : Nat) : Int) := by omega
      have e5 : ((mid + m - 1 : Nat) : Int) - (((i + j) / 2 : Nat) : Int) = ((mid + m - 1 - (i + j) / 2 : Nat) : Int) := by omega
      obtain ⟨D, hD, g5⟩ := sb.g
      obtain ⟨x, hx⟩ : ∃ x, D[mid + m - 1 - (i + j) / 2]? = some x := ⟨_, List.getElem?_eq_getElem (by omega)⟩
      obtain ⟨y, hy⟩ : ∃ y, D[(i + j) / 2]? = some y := ⟨_, List.getElem?_eq_getElem (by omega)⟩
      have r1 := rdE encL_len g5 hx
      have r2 := rdE encL_len g5 hy
      simp(disch:=first|omega|(simp only[Wx];done)|(simp only[Wy];done)|(simp only[Wv];omega)|with_unfolding_all rfl)only[Wz,ptrTo,sliceTo, rs_35_10, s1, s2, lt_t (show (i : Int) < (j : Int) by omega), rs_35_9, ea, conv_u, shr_1, conv_i, e5, indexAddr_eq, r1, r2]
      refine hC x y h3 _ fun r => ?_
      by_cases hc : r < 0
      · simp(disch:=first|omega|(simp only[Wx];done)|(simp only[Wy];done)|(simp only[Wv];omega)|with_unfolding_all rfl)only[Wz,ptrTo,sliceTo, dec_t hc]
        exact ⟨_, by omega, i, (i + j) / 2, by first | rfl | exact s1, rfl, by omega, by omega, by omega, rfl, sb⟩
      · simp(disch:=first|omega|(simp only[Wx];done)|(simp only[Wy];done)|(simp only[Wv];omega)|with_unfolding_all rfl)only[Wz,ptrTo,sliceTo, dec_f hc]
        exact ⟨_, by omega, (i + j) / 2 + 1, j, rfl, rfl, by omega, by omega, by omega, rfl, sb⟩
    · have e6 : ((mid + m : Nat) : Int) - (i : Int) = ((mid + m - i : Nat) : Int) := by omega
      simp(disch:=first|omega|(simp only[Wx];done)|(simp only[Wy];done)|(simp only[Wv];omega)|with_unfolding_all rfl)only[Wz,ptrTo,sliceTo, rs_35_10, s1, s2, lt_f (show (j : Int) ≤ (i : Int) by omega), e6]
      refine ⟨fun _ h' => SB b n h0 h', ?_, ?_⟩
      · by_cases c4 : i < m ∧ m < mid + m - i
        · simp(disch:=first|omega|(simp only[Wx];done)|(simp only[Wy];done)|(simp only[Wv];omega)|with_unfolding_all rfl)only[Wz,ptrTo,sliceTo, rs_35_8, s1, lt_t (show (i : Int) < (m : Int) by omega), lt_t (show (m : Int) < ((mid + m - i : Nat) : Int) by omega)]
          refine rotate_w hbn hbl hn sb i m (mid + m - i) c4.1 c4.2 (by omega) _ ?_
          intro h5 sb5
          exact sb5
        · by_cases c5 : i < m
          · simp(disch:=first|omega|(simp only[Wx];done)|(simp only[Wy];done)|(simp only[Wv];omega)|with_unfolding_all rfl)only[Wz,ptrTo,sliceTo, rs_35_8, s1, lt_t (show (i : Int) < (m : Int) by omega), lt_f (show ((mid + m - i : Nat) : Int) ≤ (m : Int) by omega)]
            exact sb
          · simp(disch:=first|omega|(simp only[Wx];done)|(simp only[Wy];done)|(simp only[Wv];omega)|with_unfolding_all rfl)only[Wz,ptrTo,sliceTo, rs_35_8, s1, lt_f (show (m : Int) ≤ (i : Int) by omega)]
            exact sb
      rintro l122 h5 sb5
      refine ⟨fun _ h' => SB b n h0 h', ?_, ?_⟩
      · by_cases c4 : a < i ∧ i < mid
        · simp(disch:=first|omega|(simp only[Wx];done)|(simp only[Wy];done)|(simp only[Wv];omega)|with_unfolding_all rfl)only[Wz,ptrTo,sliceTo, rs_35_6, s1, lt_t (show (a : Int) < (i : Int) by omega), lt_t (show (i : Int) < (mid : Int) by omega)]
          refine ih sb5 a i mid (by omega) c4.1 c4.2 (by omega) _ ?_
          intro h6 sb6
          exact sb6
        · by_cases c5 : a < i
          · simp(disch:=first|omega|(simp only[Wx];done)|(simp only[Wy];done)|(simp only[Wv];omega)|with_unfolding_all rfl)only[Wz,ptrTo,sliceTo, rs_35_6, s1, lt_t (show (a : Int) < (i : Int) by omega), lt_f (show (mid : Int) ≤ (i : Int) by omega)]
            exact sb5
          · simp(disch:=first|omega|(simp only[Wx];done)|(simp only[Wy];done)|(simp only[Wv];omega)|with_unfolding_all rfl)only[Wz,ptrTo,sliceTo, rs_35_6, s1, lt_f (show (i : Int) ≤ (a : Int) by omega)]
            exact sb5
      rintro l133 h6 sb6
      by_cases c4 : mid < mid + m - i ∧ mid + m - i < e
      · simp(disch:=first|omega|(simp only[Wx];done)|(simp only[Wy];done)|(simp only[Wv];omega)|with_unfolding_all rfl)only[Wz,ptrTo,sliceTo, rs_35_7, lt_t (show (mid : Int) < ((mid + m - i : Nat) : Int) by omega), lt_t (show ((mid + m - i : Nat) : Int) < (e : Int) by omega)]
        refine ih sb6 mid (mid + m - i) e (by omega) c4.1 c4.2 he _ ?_
        intro h7 sb7
        exact hk h7 sb7
      · by_cases c5 : mid < mid + m - i
        · simp(disch:=first|omega|(simp only[Wx];done)|(simp only[Wy];done)|(simp only[Wv];omega)|with_unfolding_all rfl)only[Wz,ptrTo,sliceTo, rs_35_7, lt_t (show (mid : Int) < ((mid + m - i : Nat) : Int) by omega), lt_f (show (e : Int) ≤ ((mid + m - i : Nat) : Int) by omega)]
          exact hk h6 sb6
        · simp(disch:=first|omega|(simp only[Wx];done)|(simp only[Wy];done)|(simp only[Wv];omega)|with_unfolding_all rfl)only[Wz,ptrTo,sliceTo, rs_35_7, lt_f (show ((mid + m - i : Nat) : Int) ≤ (mid : Int) by omega)]
          exact hk h6 sb6
theorem stable_w (hbn : b < h0.nx) (hbl : h0.lo ≤ b) (hn : n ≤ 10000) (hC : CmpOk fv) {h : Heap} (s : SB b n h0 h) (κ : Value → Heap → Prop) (hk : ∀ h', SB b n h0 h' → κ (.tuple ⟨[]⟩) h') :
    CallW Tryd.prog 28 [sliL b n, .int .i64 (n : Int), fv] h κ := by
  refine callW_of mixed ?_
  rw [rs_28]
  refine ⟨fun k l h1 => ∃ i : Nat, slot l 9 = .int .i64 (i : Int) ∧ slot l 13 = .int .i64 ((i + 20 : Nat) : Int) ∧ i ≤ n ∧ k = n - i ∧ SB b n h0 h1, ⟨_, 0, rfl, rfl, Nat.zero_le _, rfl, s⟩, ?_⟩
  rintro k l h1 ⟨i, s1, s2, hi, rfl, sb⟩
  by_cases c1 : i + 20 ≤ n
  · simp(disch:=first|omega|(simp only[Wx];done)|(simp only[Wy];done)|(simp only[Wv];omega)|with_unfolding_all rfl)only[Wz,ptrTo,sliceTo, s1, s2, dec_t (show ((i + 20 : Nat) : Int) ≤ (n : Int) by omega)]
    refine isortL_w hbn hbl (by omega) hC sb i (i + 20) c1 (by omega) _ ?_
    intro h2 sb2
    exact ⟨_, by omega, i + 20, by first | rfl | exact s2, rfl, by omega, rfl, sb2⟩
  · simp(disch:=first|omega|(simp only[Wx];done)|(simp only[Wy];done)|(simp only[Wv];omega)|with_unfolding_all rfl)only[Wz,ptrTo,sliceTo, s1, s2, dec_f (show ¬ ((i + 20 : Nat) : Int) ≤ (n : Int) by omega), rs_28_2]
    refine isortL_w hbn hbl (by omega) hC sb i n (Nat.le_refl _) (by omega) _ ?_
    intro h2 sb2
    refine ⟨fun k l h1 => ∃ bs : Nat, slot l 38 = .int .i64 (bs : Int) ∧ 1 ≤ bs ∧ bs ≤ 2 * n + 20 ∧ k = 2 * n + 20 - bs ∧ SB b n h0 h1, ⟨_, 20, rfl, by omega, by omega, rfl, sb2⟩, ?_⟩
    rintro k l7 h3 ⟨bs, s3, hb1, hb2, rfl, sb3⟩
    by_cases c2 : bs < n
    · have e1 : (2 : Int) * (bs : Int) = ((2 * bs : Nat) : Int) := by omega
      simp(disch:=first|omega|(simp only[Wx];done)|(simp only[Wy];done)|(simp only[Wv];omega)|with_unfolding_all rfl)only[Wz,ptrTo,sliceTo, s3, lt_t (show (bs : Int) < (n : Int) by omega), e1]
      refine ⟨fun k l h1 => ∃ q : Nat, slot l 12 = .int .i64 (q : Int) ∧ slot l 17 = .int .i64 ((q + 2 * bs : Nat) : Int) ∧ q ≤ n ∧ k = n - q ∧ SB b n h0 h1, ⟨_, 0, rfl, by rw [Nat.zero_add]; rfl, Nat.zero_le _, rfl, sb3⟩, ?_⟩
      rintro k l11 h4 ⟨q, s4, s5, hq, rfl, sb4⟩
      have e2 : (q : Int) + (bs : Int) = ((q + bs : Nat) : Int) := by omega
      have e3 : ((q + 2 * bs : Nat) : Int) + ((2 * bs : Nat) : Int) = ((q + 2 * bs + 2 * bs : Nat) : Int) := by omega
      by_cases c3 : q + 2 * bs ≤ n
      · simp(disch:=first|omega|(simp only[Wx];done)|(simp only[Wy];done)|(simp only[Wv];omega)|with_unfolding_all rfl)only[Wz,ptrTo,sliceTo, rs_28_1, s3, s4, s5, dec_t (show ((q + 2 * bs : Nat) : Int) ≤ (n : Int) by omega), e2]
        refine symMerge_w hbn hbl (by omega) hC _ sb4 q (q + bs) (q + 2 * bs) (Nat.le_refl _) (by omega) (by omega) c3 _ ?_
        intro h5 sb5
        simp(disch:=first|omega|(simp only[Wx];done)|(simp only[Wy];done)|(simp only[Wv];omega)|with_unfolding_all rfl)only[Wz,ptrTo,sliceTo, s3, s5, e1, e3]
        exact ⟨_, by omega, q + 2 * bs, by first | rfl | exact s5, rfl, by omega, rfl, sb5⟩
      · simp(disch:=first|omega|(simp only[Wx];done)|(simp only[Wy];done)|(simp only[Wv];omega)|with_unfolding_all rfl)only[Wz,ptrTo,sliceTo, rs_28_1, s3, s4, s5, dec_f (show ¬ ((q + 2 * bs : Nat) : Int) ≤ (n : Int) by omega), rs_28_0, e2]
        refine ⟨fun _ h' => SB b n h0 h', ?_, ?_⟩
        · by_cases c4 : q + bs < n
          · simp(disch:=first|omega|(simp only[Wx];done)|(simp only[Wy];done)|(simp only[Wv];omega)|with_unfolding_all rfl)only[Wz,ptrTo,sliceTo, s3, s4, e2, lt_t (show ((q + bs : Nat) : Int) < (n : Int) by omega)]
            refine symMerge_w hbn hbl (by omega) hC _ sb4 q (q + bs) n (Nat.le_refl _) (by omega) c4 (Nat.le_refl _) _ ?_
            intro h5 sb5
            exact sb5
          · simp(disch:=first|omega|(simp only[Wx];done)|(simp only[Wy];done)|(simp only[Wv];omega)|with_unfolding_all rfl)only[Wz,ptrTo,sliceTo, s3, s4, e2, lt_f (show (n : Int) ≤ ((q + bs : Nat) : Int) by omega)]
            exact sb4
        · rintro l18 h5 sb5
          have e4 : (bs : Int) * 2 = ((bs * 2 : Nat) : Int) := by omega
          simp(disch:=first|omega|(simp only[Wx];done)|(simp only[Wy];done)|(simp only[Wv];omega)|with_unfolding_all rfl)only[Wz,ptrTo,sliceTo, s3, e4]
          exact ⟨_, by omega, bs * 2, rfl, by omega, by omega, rfl, sb5⟩
    · simp(disch:=first|omega|(simp only[Wx];done)|(simp only[Wy];done)|(simp only[Wv];omega)|with_unfolding_all rfl)only[Wz,ptrTo,sliceTo, s3, lt_f (show (n : Int) ≤ (bs : Int) by omega)]
      exact hk h3 sb3
theorem sortStable_w (hbn : b < h0.nx) (hbl : h0.lo ≤ b) (hn : n ≤ 10000) (hC : CmpOk fv) {h : Heap} (s : SB b n h0 h) (κ : Value → Heap → Prop) (hk : ∀ h', SB b n h0 h' → κ (.tuple ⟨[]⟩) h') :
    CallW Tryd.prog 18 [sliL b n, fv] h κ := by
  refine callW_of mixed ?_
  rw [rs_18]
  simp(disch:=first|omega|(simp only[Wx];done)|(simp only[Wy];done)|(simp only[Wv];omega)|with_unfolding_all rfl)only[Wz,ptrTo,sliceTo]
  refine stable_w hbn hbl hn hC s _ ?_
  intro h' s'
  exact hk h' s'
end
end Go.Proofs
