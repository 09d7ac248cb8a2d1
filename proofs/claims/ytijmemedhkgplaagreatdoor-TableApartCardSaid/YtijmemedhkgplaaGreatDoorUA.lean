/-
  PROVED HERE: a part of the proof, by a calculus of weakest conditions over an abstract heap (U1, U2, U3, U4, U5, U6, U7, U8).
-/
import Derived.Test.YtijmemedhkgplaaGreatDoorKF
import Derived.Test.YtijmemedhkgplaaGreatDoorV6
set_option linter.unusedVariables false
set_option linter.unusedSimpArgs false
set_option maxRecDepth 100000
namespace Go.Proofs
open Go.Vai Go.Clashes
/-! ## names, and their stripes -/
def inN (n : Int) : Bool := decide (0 ≤ n) && decide (n < 100)
theorem within_w (n : Int) {h : Heap} {κ : Value → Heap → Prop} (hk : κ (.bool (inN n)) h) : CallW Tryz.prog 191 [.int .i64 n] h κ := by
  refine pureW (v := .bool (inN n)) rfl rfl (callW_of mixed ?_) hk
  rw [rs_191]
  by_cases h1 : n < 0
  · simp (disch := first | omega | (simp only [Wx]; done) | (simp only [Wy]; done) | (simp only [Wv]; omega) | with_unfolding_all rfl) only [Wz, ptrTo, sliceTo, lt_t h1]; simp [inN]; omega
  · by_cases h2 : n < 100
    · simp (disch := first | omega | (simp only [Wx]; done) | (simp only [Wy]; done) | (simp only [Wv]; omega) | with_unfolding_all rfl) only [Wz, ptrTo, sliceTo, lt_f (show 0 ≤ n by omega), lt_t h2]; simp [inN]; omega
    · simp (disch := first | omega | (simp only [Wx]; done) | (simp only [Wy]; done) | (simp only [Wv]; omega) | with_unfolding_all rfl) only [Wz, ptrTo, sliceTo, lt_f (show 0 ≤ n by omega), lt_f (show 100 ≤ n by omega)]; simp [inN]; omega
theorem database_w (h : Heap) (κ : Value → Heap → Prop) (hlo : h.lo ≤ h.nx) (hk : ∀ h', Le h h' → κ (nmV (-1) (-1)) h') : CallW Tryz.prog 190 [] h κ := by
  refine callW_of mixed ?_
  rw [rs_190]
  simp (disch := first | omega | (simp only [Wx]; done) | (simp only [Wy]; done) | (simp only [Wv]; omega) | with_unfolding_all rfl) only [Wz, ptrTo, sliceTo]
  exact hk _ ((Le.refl h).new _)
def levelN (t r : Int) : Int := if t = -1 ∧ r = -1 then 0 else if inN t = true ∧ r = -1 then 1 else if inN t = true ∧ inN r = true then 2 else -1
theorem level0_w (t r : Int) (h : Heap) (κ : Value → Heap → Prop) (hlo : h.lo ≤ h.nx) (hk : ∀ h', Le h h' → κ (.int .i64 (levelN t r)) h') : CallW Tryz.prog 143 [nmV t r] h κ := by
  refine callW_of mixed ?_
  rw [rs_143]
  simp (disch := first | omega | (simp only [Wx]; done) | (simp only [Wy]; done) | (simp only [Wv]; omega) | with_unfolding_all rfl) only [Wz, ptrTo, sliceTo, nmV]
  obtain ⟨hA, e_hA⟩ : ∃ hA : Heap, hA = ⟨h.nx + 1, (h.bl.upd (h.nx) (cellsO [.int .i64 t, .int .i64 r] 24 false)), h.lo⟩ := ⟨_, rfl⟩
  have le_hA : Le h hA := by subst e_hA; exact ((Le.refl h).new _)
  have g1 : hA.bl.get (h.nx) = some (cellsO [.int .i64 t, .int .i64 r] 24 false) := by subst e_hA; exact T.get_upd_same _ _ _
  have n_hA : hA.nx = h.nx + 1 := by subst e_hA; rfl
  have l_hA : hA.lo = h.lo := by subst e_hA; rfl
  rw [← e_hA]
  clear e_hA
  refine database_w hA _ (by omega) ?_
  intro h2 le2
  have n_le2 := le2.nx
  have l_le2 := le2.lo
  have g1 := (le2.get _ (by omega)).trans g1
  have hk := hk h2 (le_hA.trans le2)
  simp (disch := first | omega | (simp only [Wx]; done) | (simp only [Wy]; done) | (simp only [Wv]; omega) | with_unfolding_all rfl) only [Wz, ptrTo, sliceTo, nmV, g1, veq_int, bin_eqN]
  by_cases h0 : t = -1 ∧ r = -1
  · simp (disch := first | omega | (simp only [Wx]; done) | (simp only [Wy]; done) | (simp only [Wv]; omega) | with_unfolding_all rfl) only [Wz, ptrTo, sliceTo, dec_t h0]
    have e : levelN t r = 0 := by simp [levelN, h0]
    rw [e] at hk; exact hk
  · simp (disch := first | omega | (simp only [Wx]; done) | (simp only [Wy]; done) | (simp only [Wv]; omega) | with_unfolding_all rfl) only [Wz, ptrTo, sliceTo, dec_f h0, rs_143_1, g1]
    refine within_w t ?_
    cases ht : inN t with
    | false =>
      simp (disch := first | omega | (simp only [Wx]; done) | (simp only [Wy]; done) | (simp only [Wv]; omega) | with_unfolding_all rfl) only [Wz, ptrTo, sliceTo, rs_143_0, g1]
      refine within_w t ?_
      rw [ht]
      have e : levelN t r = -1 := by unfold levelN; rw [if_neg h0, ht]; simp
      rw [e] at hk
      simp (disch := first | omega | (simp only [Wx]; done) | (simp only [Wy]; done) | (simp only [Wv]; omega) | with_unfolding_all rfl) only [Wz, ptrTo, sliceTo]
      exact hk
    | true =>
      by_cases hr : r = -1
      · simp (disch := first | omega | (simp only [Wx]; done) | (simp only [Wy]; done) | (simp only [Wv]; omega) | with_unfolding_all rfl) only [Wz, ptrTo, sliceTo, dec_t hr, g1]
        have e : levelN t r = 1 := by unfold levelN; rw [if_neg h0, ht, hr]; simp
        rw [e] at hk; exact hk
      · simp (disch := first | omega | (simp only [Wx]; done) | (simp only [Wy]; done) | (simp only [Wv]; omega) | with_unfolding_all rfl) only [Wz, ptrTo, sliceTo, dec_f hr, rs_143_0, g1]
        refine within_w t ?_
        rw [ht]
        simp (disch := first | omega | (simp only [Wx]; done) | (simp only [Wy]; done) | (simp only [Wv]; omega) | with_unfolding_all rfl) only [Wz, ptrTo, sliceTo, g1]
        refine within_w r ?_
        cases hr2 : inN r with
        | false =>
          have e : levelN t r = -1 := by unfold levelN; rw [if_neg h0, ht, hr2]; simp [hr]
          rw [e] at hk
          simp (disch := first | omega | (simp only [Wx]; done) | (simp only [Wy]; done) | (simp only [Wv]; omega) | with_unfolding_all rfl) only [Wz, ptrTo, sliceTo]
          exact hk
        | true =>
          have e : levelN t r = 2 := by unfold levelN; rw [if_neg h0, ht, hr2]; simp [hr]
          rw [e] at hk
          simp (disch := first | omega | (simp only [Wx]; done) | (simp only [Wy]; done) | (simp only [Wv]; omega) | with_unfolding_all rfl) only [Wz, ptrTo, sliceTo]
          exact hk
theorem level_w (t r : Int) {h : Heap} {κ : Value → Heap → Prop} (hk : κ (.int .i64 (levelN t r)) h) : CallW Tryz.prog 143 [nmV t r] h κ :=
  pureW (v := .int .i64 (levelN t r)) rfl rfl (level0_w t r heap0 _ (Nat.le_refl _) fun _ _ => rfl) hk
theorem checkN_w (t r : Int) {h : Heap} {κ : Value → Heap → Prop} (hk : κ (.int .i64 (if levelN t r = -1 then 2 else 0)) h) : CallW Tryz.prog 101 [nmV t r] h κ := by
  refine pureW (v := .int .i64 (if levelN t r = -1 then 2 else 0)) rfl rfl (callW_of mixed ?_) hk
  rw [rs_101]
  simp (disch := first | omega | (simp only [Wx]; done) | (simp only [Wy]; done) | (simp only [Wv]; omega) | with_unfolding_all rfl) only [Wz, ptrTo, sliceTo, nmV]
  refine level_w t r ?_
  by_cases h : levelN t r = -1
  · simp (disch := first | omega | (simp only [Wx]; done) | (simp only [Wy]; done) | (simp only [Wv]; omega) | with_unfolding_all rfl) only [Wz, ptrTo, sliceTo, dec_t h]; simp [h]
  · simp (disch := first | omega | (simp only [Wx]; done) | (simp only [Wy]; done) | (simp only [Wv]; omega) | with_unfolding_all rfl) only [Wz, ptrTo, sliceTo, dec_f h]; simp [h]
def itoaS (n : Nat) : ByteArray := if n < 10 then ⟨#[UInt8.ofNat (48 + n)]⟩ else ⟨#[UInt8.ofNat (48 + n / 10), UInt8.ofNat (48 + n % 10)]⟩
theorem itoa_a : ∀ n, n < 100 → answersS Tryz.prog 60 192 [.int .i64 (n : Nat)] (.string (itoaS n)) = true := by
  intro n hn
  have : (List.range 100).all (fun n => answersS Tryz.prog 60 192 [.int .i64 ((n : Nat) : Int)] (.string (itoaS n))) = true := by kernel_rfl
  exact List.all_eq_true.1 this n (List.mem_range.2 hn)
theorem itoa_w (n : Int) (hn : inN n = true) {h : Heap} {κ : Value → Heap → Prop} (hk : κ (.string (itoaS n.toNat)) h) : CallW Tryz.prog 192 [.int .i64 n] h κ := by
  have h1 : 0 ≤ n ∧ n < 100 := by simpa [inN] using hn
  obtain ⟨k, rfl⟩ : ∃ k : Nat, n = (k : Int) := ⟨n.toNat, by omega⟩
  rw [Int.toNat_natCast] at hk
  exact closedW mixed (itoa_a k (by omega)) hk
def textN (t r : Int) : ByteArray := if levelN t r = 0 then ⟨#[100, 98]⟩ else if levelN t r = 1 then (⟨#[116]⟩ : ByteArray) ++ itoaS t.toNat else (⟨#[116]⟩ : ByteArray) ++ itoaS t.toNat ++ (⟨#[46, 114]⟩ : ByteArray) ++ itoaS r.toNat
theorem itoa_size (n : Nat) : (itoaS n).size ≤ 2 := by
  unfold itoaS
  split <;> simp [ByteArray.size]
theorem level_cases {t r : Int} (h : levelN t r ≠ -1) : levelN t r = 0 ∨ (levelN t r = 1 ∧ inN t = true) ∨ (levelN t r = 2 ∧ inN t = true ∧ inN r = true) := by
  unfold levelN at *
  split
  · exact .inl rfl
  · split
    · rename_i h1; exact .inr (.inl ⟨rfl, h1.1⟩)
    · split
      · rename_i h1; exact .inr (.inr ⟨rfl, h1⟩)
      · rename_i h1 h2 h3; rw [if_neg h1, if_neg h2, if_neg h3] at h; exact absurd rfl h
theorem text_w (t r : Int) (hl : levelN t r ≠ -1) {h : Heap} {κ : Value → Heap → Prop} (hk : κ (.string (textN t r)) h) : CallW Tryz.prog 145 [nmV t r] h κ := by
  refine pureW (v := .string (textN t r)) rfl rfl (callW_of mixed ?_) hk
  rw [rs_145]
  simp (disch := first | omega | (simp only [Wx]; done) | (simp only [Wy]; done) | (simp only [Wv]; omega) | with_unfolding_all rfl) only [Wz, ptrTo, sliceTo, nmV]
  refine level_w t r ?_
  have st := itoa_size t.toNat
  have sr := itoa_size r.toNat
  rcases level_cases hl with e | ⟨e, ht⟩ | ⟨e, ht, hr⟩
  · rw [e]; simp (disch := first | omega | (simp only [Wx]; done) | (simp only [Wy]; done) | (simp only [Wv]; omega) | with_unfolding_all rfl) only [Wz, ptrTo, sliceTo]; simp [textN, e]
  · rw [e]
    simp (disch := first | omega | (simp only [Wx]; done) | (simp only [Wy]; done) | (simp only [Wv]; omega) | with_unfolding_all rfl) only [Wz, ptrTo, sliceTo, rs_145_1]
    refine itoa_w t ht ?_
    rw [bin_str _ _ _ _ _ _ _ _ (by show 1 + _ ≤ _; omega)]
    simp [textN, e]
  · rw [e]
    simp (disch := first | omega | (simp only [Wx]; done) | (simp only [Wy]; done) | (simp only [Wv]; omega) | with_unfolding_all rfl) only [Wz, ptrTo, sliceTo, rs_145_1, rs_145_0]
    have e1 : ∀ (β : Type) (fl : β) (cn gd : Bool) (h : Heap) (κ : Value → Heap → β), binB fl Tryz.prog .add 9 cn gd (.string ⟨#[116]⟩) (.string (itoaS t.toNat)) h κ = κ (.string ((⟨#[116]⟩ : ByteArray) ++ itoaS t.toNat)) h := fun β fl cn gd h κ => bin_str _ _ _ _ _ _ _ _ (by show 1 + _ ≤ _; omega)
    have e2 : ∀ (β : Type) (fl : β) (cn gd : Bool) (h : Heap) (κ : Value → Heap → β), binB fl Tryz.prog .add 9 cn gd (.string ((⟨#[116]⟩ : ByteArray) ++ itoaS t.toNat)) (.string ⟨#[46, 114]⟩) h κ = κ (.string ((⟨#[116]⟩ : ByteArray) ++ itoaS t.toNat ++ (⟨#[46, 114]⟩ : ByteArray))) h := fun β fl cn gd h κ => bin_str _ _ _ _ _ _ _ _ (by rw [ByteArray.size_append]; show 1 + _ + 2 ≤ _; omega)
    have e3 : ∀ (β : Type) (fl : β) (cn gd : Bool) (h : Heap) (κ : Value → Heap → β), binB fl Tryz.prog .add 9 cn gd (.string ((⟨#[116]⟩ : ByteArray) ++ itoaS t.toNat ++ (⟨#[46, 114]⟩ : ByteArray))) (.string (itoaS r.toNat)) h κ = κ (.string ((⟨#[116]⟩ : ByteArray) ++ itoaS t.toNat ++ (⟨#[46, 114]⟩ : ByteArray) ++ itoaS r.toNat)) h := fun β fl cn gd h κ => bin_str _ _ _ _ _ _ _ _ (by rw [ByteArray.size_append, ByteArray.size_append]; show 1 + _ + 2 + _ ≤ _; omega)
    refine itoa_w t ht ?_
    simp (disch := first | omega | (simp only [Wx]; done) | (simp only [Wy]; done) | (simp only [Wv]; omega) | with_unfolding_all rfl) only [Wz, ptrTo, sliceTo, e1, e2]
    refine itoa_w r hr ?_
    simp (disch := first | omega | (simp only [Wx]; done) | (simp only [Wy]; done) | (simp only [Wv]; omega) | with_unfolding_all rfl) only [Wz, ptrTo, sliceTo, e1, e2, e3, veq_str]
    simp [textN, e]
def stepB (a : Int) (b : UInt8) : Int := IntKind.u32.wrap (IntKind.u32.wrap ((BitVec.ofInt IntKind.u32.bits a ^^^ BitVec.ofInt IntKind.u32.bits (IntKind.u32.wrap (Int.ofNat b.toNat))).toNat) * 16777619)
def sumB (s : ByteArray) : Int := s.data.toList.foldl stepB 2166136261
theorem stepB_range (a : Int) (b : UInt8) : 0 ≤ stepB a b ∧ stepB a b < 4294967296 := wrap32_range _
theorem sumB_range (s : ByteArray) : 0 ≤ sumB s ∧ sumB s < 4294967296 := by
  unfold sumB
  have : ∀ (l : List UInt8) (a : Int), (0 ≤ a ∧ a < 4294967296) → 0 ≤ l.foldl stepB a ∧ l.foldl stepB a < 4294967296 := by
    intro l
    induction l with
    | nil => exact fun a h => h
    | cons b l ih => exact fun a _ => ih _ (stepB_range a b)
  exact this _ _ (by decide)
theorem sum_w (s : ByteArray) (hs : s.data.toList.length ≤ 1000) {h : Heap} {κ : Value → Heap → Prop} (hk : κ (.int .u32 (sumB s)) h) : CallW Tryz.prog 144 [.string s] h κ := by
  refine pureW (v := .int .u32 (sumB s)) rfl rfl (callW_of mixed ?_) hk
  rw [rs_144]
  rw [strBytes_eq _ _ _ _ (by omega)]
  simp (disch := first | omega | (simp only [Wx]; done) | (simp only [Wy]; done) | (simp only [Wv]; omega) | with_unfolding_all rfl) only [Wz, ptrTo, sliceTo]
  refine ⟨fun n l h1 => ∃ i : Nat, slot l 12 = .int .i64 (i : Int) ∧ slot l 10 = .int .u32 ((s.data.toList.take i).foldl stepB 2166136261) ∧ i ≤ s.data.toList.length ∧ n = s.data.toList.length - i ∧ HQ ⟨heap0.nx + 1, heap0.bl.upd heap0.nx (roO (bytesV s) 5), heap0.lo⟩ h1, ⟨_, 0, rfl, rfl, Nat.zero_le _, rfl, rfl⟩, ?_⟩
  rintro n l h1 ⟨i, s1, s2, hi, rfl, hq⟩
  cases (show _ = h1 from hq)
  by_cases hlt : i < s.data.toList.length
  · have hg := bytesV_get hlt
    simp (disch := first | omega | (simp only [Wx]; done) | (simp only [Wy]; done) | (simp only [Wv]; omega) | with_unfolding_all rfl) only [Wz, ptrTo, sliceTo, s1, lt_t (show (i : Int) < (s.data.toList.length : Int) by omega), rs_144_0, indexAddr_eq, Nat.mul_one, hg, s2, conv_u32, bin_xor32, bin_mul32]
    refine ⟨_, by omega, i + 1, rfl, ?_, by omega, rfl, rfl⟩
    rw [List.take_add_one, List.getElem?_eq_getElem hlt]
    simp only [Option.toList_some, List.foldl_append, List.foldl_cons, List.foldl_nil]
    rfl
  · have hil : i = s.data.toList.length := by omega
    simp (disch := first | omega | (simp only [Wx]; done) | (simp only [Wy]; done) | (simp only [Wv]; omega) | with_unfolding_all rfl) only [Wz, ptrTo, sliceTo, s1, lt_f (show (s.data.toList.length : Int) ≤ (i : Int) by omega), s2]
    rw [hil, List.take_length]; rfl
theorem text_len (t r : Int) : (textN t r).data.toList.length ≤ 1000 := by
  have st := itoa_size t.toNat
  have sr := itoa_size r.toNat
  have : (textN t r).size ≤ 1000 := by
    unfold textN
    split
    · decide
    · split
      · rw [ByteArray.size_append]; show 1 + _ ≤ _; omega
      · rw [ByteArray.size_append, ByteArray.size_append, ByteArray.size_append]; show 1 + _ + 2 + _ ≤ _; omega
  exact this
theorem hash_w (t r : Int) (hl : levelN t r ≠ -1) {h : Heap} {κ : Value → Heap → Prop} (hk : κ (.int .u32 (sumB (textN t r))) h) : CallW Tryz.prog 102 [nmV t r] h κ := by
  refine pureW (v := .int .u32 (sumB (textN t r))) rfl rfl (callW_of mixed ?_) hk
  rw [rs_102]
  simp (disch := first | omega | (simp only [Wx]; done) | (simp only [Wy]; done) | (simp only [Wv]; omega) | with_unfolding_all rfl) only [Wz, ptrTo, sliceTo, nmV]
  refine text_w t r hl ?_
  refine sum_w _ (text_len t r) ?_
  rfl
def strN (t r s : Int) : Int := if s < 1 ∨ 16 < s ∨ levelN t r = -1 then -1 else Int.tmod (sumB (textN t r)) s
theorem strN_range {t r s : Int} (h : strN t r s ≠ -1) : 0 ≤ strN t r s ∧ strN t r s < s ∧ levelN t r ≠ -1 := by
  unfold strN at *
  by_cases hc : s < 1 ∨ 16 < s ∨ levelN t r = -1
  · rw [if_pos hc] at h; exact absurd rfl h
  · rw [if_neg hc]
    have h1 := sumB_range (textN t r)
    have h2 := Int.tmod_lt_of_pos (sumB (textN t r)) (show 0 < s by omega)
    have h3 := Int.tmod_nonneg s h1.1
    exact ⟨h3, h2, fun e => hc (.inr (.inr e))⟩
theorem may_w (s : Int) {h : Heap} {κ : Value → Heap → Prop} (hk : κ (.bool (decide (1 ≤ s) && decide (s ≤ 16))) h) : CallW Tryz.prog 100 [.int .i64 s] h κ := by
  refine pureW (v := .bool (decide (1 ≤ s) && decide (s ≤ 16))) rfl rfl (callW_of mixed ?_) hk
  rw [rs_100]
  by_cases h1 : s < 1
  · simp (disch := first | omega | (simp only [Wx]; done) | (simp only [Wy]; done) | (simp only [Wv]; omega) | with_unfolding_all rfl) only [Wz, ptrTo, sliceTo, lt_t h1]; simp; omega
  · by_cases h2 : 16 < s
    · simp (disch := first | omega | (simp only [Wx]; done) | (simp only [Wy]; done) | (simp only [Wv]; omega) | with_unfolding_all rfl) only [Wz, ptrTo, sliceTo, lt_f (show 1 ≤ s by omega), lt_t h2]; simp; omega
    · simp (disch := first | omega | (simp only [Wx]; done) | (simp only [Wy]; done) | (simp only [Wv]; omega) | with_unfolding_all rfl) only [Wz, ptrTo, sliceTo, lt_f (show 1 ≤ s by omega), lt_f (show s ≤ 16 by omega)]; simp; omega
theorem stripe_w (t r s : Int) {h : Heap} {κ : Value → Heap → Prop} (hk : κ (.int .i64 (strN t r s)) h) : CallW Tryz.prog 47 [nmV t r, .int .i64 s] h κ := by
  refine pureW (v := .int .i64 (strN t r s)) rfl rfl (callW_of mixed ?_) hk
  rw [rs_47]
  simp (disch := first | omega | (simp only [Wx]; done) | (simp only [Wy]; done) | (simp only [Wv]; omega) | with_unfolding_all rfl) only [Wz, ptrTo, sliceTo, nmV]
  refine may_w s ?_
  by_cases h1 : 1 ≤ s ∧ s ≤ 16
  · simp (disch := first | omega | (simp only [Wx]; done) | (simp only [Wy]; done) | (simp only [Wv]; omega) | with_unfolding_all rfl) only [Wz, ptrTo, sliceTo, dec_t h1.1, dec_t h1.2]
    refine checkN_w t r ?_
    by_cases hl : levelN t r = -1
    · rw [if_pos hl]
      simp (disch := first | omega | (simp only [Wx]; done) | (simp only [Wy]; done) | (simp only [Wv]; omega) | with_unfolding_all rfl) only [Wz, ptrTo, sliceTo]
      simp [strN, hl]
    · rw [if_neg hl]
      simp (disch := first | omega | (simp only [Wx]; done) | (simp only [Wy]; done) | (simp only [Wv]; omega) | with_unfolding_all rfl) only [Wz, ptrTo, sliceTo]
      refine hash_w t r hl ?_
      have hr := sumB_range (textN t r)
      have h2 := Int.tmod_lt_of_pos (sumB (textN t r)) (show 0 < s by omega)
      have h3 := Int.tmod_nonneg s hr.1
      simp (disch := first | omega | (simp only [Wx]; done) | (simp only [Wy]; done) | (simp only [Wv]; omega) | with_unfolding_all rfl) only [Wz, ptrTo, sliceTo, conv_u32, wrap32_id, bin_rem32]
      unfold strN
      rw [if_neg (by omega)]
  · have e : (decide (1 ≤ s) && decide (s ≤ 16)) = false := by simp; omega
    rw [e]
    simp (disch := first | omega | (simp only [Wx]; done) | (simp only [Wy]; done) | (simp only [Wv]; omega) | with_unfolding_all rfl) only [Wz, ptrTo, sliceTo]
    unfold strN
    rw [if_pos (by omega)]
end Go.Proofs

namespace Go.Proofs
open Go.Vai Go.Clashes
/-! ## a map from numbers to numbers -/
abbrev IE := Int × Int × Nat
def toI (e : IE) : MapEntry := { key := .int .i64 e.1, val := .int .i64 e.2.1, born := e.2.2 }
def lkI (W : List IE) (k : Int) : Option Int := (W.find? fun e => decide (k = e.1)).map fun e => e.2.1
theorem eqI (h : Heap) (a b : Int) : eqB Tryz.prog h 100 3 (.int .i64 a) (.int .i64 b) = some (decide (a = b)) := by
  have : eqB Tryz.prog h 100 3 (.int .i64 a) (.int .i64 b) = some (ieqB a b) := by kernel_rfl
  rw [this, ieqB_eq]
theorem keyI (t : Int) : keyOk Tryz.prog 20 3 (.int .i64 t) = true := by kernel_rfl
theorem veqI (t : Int) : veq 3 (.int .i64 t) (.int .i64 t) = true := by
  show (kindEq .i64 .i64 && ieqB t t) = true
  rw [ieqB_eq, dec_t rfl]; rfl
theorem findI (h : Heap) (k : Int) : ∀ (M : List IE) (i : Nat), (findB Tryz.prog h 3 (.int .i64 k) (M.map toI) i = some none ∧ M.find? (fun e => decide (k = e.1)) = none) ∨
    ∃ (j : Nat) (e : IE), findB Tryz.prog h 3 (.int .i64 k) (M.map toI) i = some (some (i + j, toI e)) ∧ M[j]? = some e ∧ k = e.1 ∧ M.find? (fun e => decide (k = e.1)) = some e ∧ ∀ (v : Int) (k' : Int), (M.set j (e.1, v, e.2.2)).find? (fun e => decide (k' = e.1)) = if k' = k then some (e.1, v, e.2.2) else M.find? (fun e => decide (k' = e.1)) := by
  intro M
  induction M with
  | nil => intro i; exact .inl ⟨rfl, rfl⟩
  | cons e M ih =>
    intro i
    have hf : findB Tryz.prog h 3 (.int .i64 k) ((e :: M).map toI) i = (match (some (decide (k = e.1)) : Option Bool) with | some true => some (some (i, toI e)) | some false => findB Tryz.prog h 3 (.int .i64 k) (M.map toI) (Nat.succ i) | none => none) := by
      rw [← eqI h]; rfl
    rw [hf]
    by_cases h1 : k = e.1
    · rw [dec_t h1]
      refine .inr ⟨0, e, rfl, rfl, h1, by rw [List.find?_cons, dec_t h1], fun v k' => ?_⟩
      rw [List.set_cons_zero, List.find?_cons, List.find?_cons]
      by_cases h2 : k' = k
      · rw [if_pos h2, dec_t (h2.trans h1)]
      · rw [if_neg h2, dec_f (fun e' => h2 (e'.trans h1.symm))]
    · rw [dec_f h1]
      rcases ih (Nat.succ i) with ⟨g1, g2⟩ | ⟨j, e', g1, g2, g3, g4, g5⟩
      · exact .inl ⟨g1, by rw [List.find?_cons, dec_f h1]; exact g2⟩
      · refine .inr ⟨j + 1, e', by rw [show i + (j + 1) = Nat.succ i + j by omega]; exact g1, g2, g3, by rw [List.find?_cons, dec_f h1]; exact g4, fun v k' => ?_⟩
        rw [List.set_cons_succ, List.find?_cons, List.find?_cons]
        by_cases h2 : k' = e.1
        · rw [dec_t h2]
          simp only
          rw [if_neg (fun e' => h1 (e'.symm.trans h2))]
        · rw [dec_f h2]
          exact g5 v k'
theorem lookI {β : Type} {fl : β} {W : List IE} {clock : Nat} {h : Heap} {bw : Nat} (g : h.bl.get bw = some (.map (W.map toI) clock)) (k : Int) (κ : Value → Heap → β) :
    lookupB fl Tryz.prog 3 (.int .i64 0) true (.map (some bw)) (.int .i64 k) h κ = κ (.tuple ⟨[.int .i64 ((lkI W k).getD 0), .bool (lkI W k).isSome]⟩) h := by
  unfold lookupB lookupE lkI
  rw [keyI]
  simp only [g]
  rcases findI h k W 0 with ⟨g1, g2⟩ | ⟨j, e', g1, g2, g3, g4, _⟩
  · rw [g1, g2]; rfl
  · rw [g1, g4]; rfl
theorem putI_w {W : List IE} {clock : Nat} {h : Heap} {bw : Nat} (g : h.bl.get bw = some (.map (W.map toI) clock)) (hlo : h.lo ≤ bw) (k v : Int) (κ : Value → Heap → Prop)
    (hk : ∀ W' clock', (∀ j, lkI W' j = if j = k then some v else lkI W j) → κ undef ⟨h.nx, h.bl.upd bw (.map (W'.map toI) clock'), h.lo⟩) :
    mapUpdateB False Tryz.prog 3 (.map (some bw)) (.int .i64 k) (.int .i64 v) h κ := by
  unfold mapUpdateB
  rw [keyI]
  simp only [g]
  rcases findI h k W 0 with ⟨g1, g2⟩ | ⟨j, e, g1, g2, g3, g4, g5⟩
  · rw [g1]
    simp only
    rw [snocK_eq]
    simp only [fnK_eq]
    rw [setBlock_eq _ _ _ _ hlo]
    have := hk (W ++ [(k, v, clock)]) (clock + 1) fun j => by
      unfold lkI
      rw [List.find?_append]
      by_cases hj : j = k
      · rw [if_pos hj, hj, g2]; simp
      · rw [if_neg hj]
        simp [List.find?_cons, hj]
    rw [List.map_append] at this
    exact this
  · rw [g1]
    subst g3
    simp only [toI, veqI]
    rw [Nat.zero_add, setAt_eq _ _ j (toI e) _ (by rw [List.getElem?_map, g2]; rfl), setBlock_eq _ _ _ _ hlo]
    have := hk (W.set j (e.1, v, e.2.2)) clock fun i => by
      unfold lkI
      rw [g5 v i]
      split <;> rfl
    rw [List.map_set] at this
    exact this
end Go.Proofs

namespace Go.Proofs
open Go.Vai Go.Clashes
/-! ## a bucket among others -/
theorem FrQ.keep {h h' : Heap} {bb bm bp bl most clock : Nat} {M : List HE} {F : List Int} {B : List Bool} (s : BucketIs h bb bm bp bl most M clock F B) (f : FrQ bm bp bl h h') {c : Nat} {vs : List Value} {ty : TypeId} {op : Bool} (hc : c < h.nx) (hg : h.bl.get c = some (cellsO vs ty op)) (h1 : ty ≠ 132) (h2 : ty ≠ 4) (h3 : ty ≠ 3) : h'.bl.get c = h.bl.get c := by
  obtain ⟨fs, hgp, hpt⟩ := s.pool.fr.cell
  have gl := s.pool.cell
  have gm := s.cellm
  exact f.get c hc (by rintro rfl; rw [hg] at gm; exact cells_map gm.symm) (by rintro rfl; rw [hg] at hgp; exact cells_ty h1 hgp) (by rintro rfl; rw [hg] at gl; exact cells_ty h2 gl) fun ws => by rw [hg]; exact cells_ty h3
theorem FrQ.keepMap {h h' : Heap} {bb bm bp bl most clock : Nat} {M : List HE} {F : List Int} {B : List Bool} (s : BucketIs h bb bm bp bl most M clock F B) (f : FrQ bm bp bl h h') {c : Nat} {es : List MapEntry} {cl : Nat} (hc : c < h.nx) (hg : h.bl.get c = some (.map es cl)) (hne : c ≠ bm) : h'.bl.get c = h.bl.get c := by
  obtain ⟨fs, hgp, hpt⟩ := s.pool.fr.cell
  have gl := s.pool.cell
  exact f.get c hc hne (by rintro rfl; rw [hgp] at hg; exact cells_map hg.symm) (by rintro rfl; rw [gl] at hg; exact cells_map hg.symm) fun ws => by rw [hg]; exact cells_map
theorem BucketIs.aside {h h' : Heap} {bb bm bb2 bm2 bp bl most most2 clock clock2 : Nat} {M M2 : List HE} {F F' : List Int} {B B' : List Bool} (s : BucketIs h bb bm bp bl most M clock F B) (f : FrQ bm bp bl h h') (s2 : BucketIs h bb2 bm2 bp bl most2 M2 clock2 F B) (hne : bm2 ≠ bm) (p : PoolIs h' bp bl F' B') : BucketIs h' bb2 bm2 bp bl most2 M2 clock2 F' B' := by
  have fn := f.nx
  have fl := f.lo
  have sb := s2.ltb
  have sm := s2.ltm
  refine ⟨by omega, by omega, by rw [fl]; exact s2.lom, (f.keep s sb s2.cellb (by decide) (by decide) (by decide)).trans s2.cellb, (f.keepMap s sm s2.cellm hne).trans s2.cellm, s2.ok, fun e he => ?_, s2.good, p, s2.ne⟩
  have a := s2.heads e he
  have al := a.lt
  exact ⟨by omega, (f.keep s al a.get (by decide) (by decide) (by decide)).trans a.get, a.qv.frame fn fun c vs op hc hg => f.keep s hc hg (by decide) (by decide) (by decide)⟩
/-! ## package table -/
structure TB where
  bb : Nat
  bm : Nat
  M : List HE
  clock : Nat
def encTB (b : TB) : List Value := [.pointer (some ⟨b.bb, 0, none⟩)]
theorem encTB_len (b : TB) : (encTB b).length = 1 := rfl
theorem encTB_one (b : TB) : (encTB b).all oneC = true := rfl
structure Caps where
  S : Int
  H : Int
  R : Int
  P : Int
structure TableIs (h : Heap) (tb bw bp bl : Nat) (c : Caps) (vb : Value) (heads : Nat) (T : List TB) (W : List IE) (wc : Nat) (F : List Int) (B : List Bool) : Prop where
  ltt : tb < h.nx
  cellt : h.bl.get tb = some (cellsO [.int .i64 c.S, .int .i64 c.H, .int .i64 c.R, .int .i64 c.P, .pointer (some ⟨bp, 0, none⟩), vb, .map (some bw)] 88 false)
  sl : Sl encTB h vb T
  ty : TyS 89 h vb
  ltw : bw < h.nx
  low : h.lo ≤ bw
  cellw : h.bl.get bw = some (.map (W.map toI) wc)
  bk : ∀ b ∈ T, BucketIs h b.bb b.bm bp bl heads b.M b.clock F B
  dist : T.Pairwise fun a b => a.bm ≠ b.bm
  wne : ∀ b ∈ T, bw ≠ b.bm
  pool : PoolIs h bp bl F B
  cS : c.S = T.length
  s1 : 1 ≤ T.length ∧ T.length ≤ 16
  hd : heads ≤ 64
theorem Sl.keepTy {α : Type} {enc : α → List Value} {h h' : Heap} {v : Value} {L : List α} {e : TypeId} (s : Sl enc h v L) (t : TyS e h v) (hn : h.nx ≤ h'.nx) (hg : ∀ c vs op, c < h.nx → h.bl.get c = some (cellsO vs e op) → h'.bl.get c = h.bl.get c) : Sl enc h' v L ∧ TyS e h' v := by
  constructor
  · obtain ⟨x, cap, rfl, h2⟩ := s
    refine ⟨x, cap, rfl, fun hne => ?_⟩
    obtain ⟨b, o, rfl, h3, h4⟩ := h2 hne
    obtain ⟨h1, vs, op, h5⟩ := t b o _ cap rfl (by intro h0; exact hne (List.eq_nil_of_length_eq_zero h0))
    refine ⟨b, o, rfl, Nat.lt_of_lt_of_le h3 hn, ?_⟩
    rw [hg b vs op h1 h5]; exact h4
  · intro b o n c hv hn0
    obtain ⟨h1, vs, op, h2⟩ := t b o n c hv hn0
    exact ⟨Nat.lt_of_lt_of_le h1 hn, vs, op, (hg b vs op h1 h2).trans h2⟩
theorem TableIs.le {h h' : Heap} {tb bw bp bl : Nat} {c : Caps} {vb : Value} {heads : Nat} {T : List TB} {W : List IE} {wc : Nat} {F : List Int} {B : List Bool} (s : TableIs h tb bw bp bl c vb heads T W wc F B) (l : Le h h') : TableIs h' tb bw bp bl c vb heads T W wc F B :=
  ⟨Nat.lt_of_lt_of_le s.ltt l.nx, (l.get _ s.ltt).trans s.cellt, s.sl.le l, s.ty.le l, Nat.lt_of_lt_of_le s.ltw l.nx, by rw [l.lo]; exact s.low, (l.get _ s.ltw).trans s.cellw, fun b hb => (s.bk b hb).le l, s.dist, s.wne, s.pool.le l, s.cS, s.s1, s.hd⟩
theorem set_flat {T : List TB} {k : Nat} {b : TB} (hk : T[k]? = some b) (M' : List HE) (clock' : Nat) : (T.set k ⟨b.bb, b.bm, M', clock'⟩).flatMap encTB = T.flatMap encTB := by
  obtain ⟨hl, rfl⟩ := List.getElem?_eq_some_iff.1 hk
  rw [List.flatMap_def, List.flatMap_def, List.map_set]
  congr 1
  refine List.ext_getElem? fun i => ?_
  rw [List.getElem?_set]
  split
  · rename_i e; subst e
    rw [if_pos (by simpa using hl), List.getElem?_map, List.getElem?_eq_getElem hl]; rfl
  · rfl
theorem Sl.congr {α : Type} {enc : α → List Value} {h : Heap} {v : Value} {L L' : List α} (s : Sl enc h v L) (hl : L'.length = L.length) (hf : L'.flatMap enc = L.flatMap enc) : Sl enc h v L' := by
  obtain ⟨x, cap, rfl, h2⟩ := s
  refine ⟨x, cap, by rw [hl], fun hne => ?_⟩
  rw [hf]
  exact h2 (fun e => hne (List.eq_nil_of_length_eq_zero (by rw [hl, e]; rfl)))
theorem TableIs.change {h h' : Heap} {tb bw bp bl : Nat} {c : Caps} {vb : Value} {heads : Nat} {T : List TB} {W : List IE} {wc : Nat} {F F' : List Int} {B B' : List Bool} (s : TableIs h tb bw bp bl c vb heads T W wc F B) {k : Nat} {b : TB} (hk : T[k]? = some b) {M' : List HE} {clock' : Nat} (is' : BucketIs h' b.bb b.bm bp bl heads M' clock' F' B') (f : FrQ b.bm bp bl h h') :
    TableIs h' tb bw bp bl c vb heads (T.set k ⟨b.bb, b.bm, M', clock'⟩) W wc F' B' := by
  have hb := s.bk b (List.mem_of_getElem? hk)
  have fn := f.nx
  have fl := f.lo
  have h1 := s.ltt
  have h2 := s.ltw
  have k1 := Sl.keepTy s.sl s.ty fn fun c vs op hc hg => f.keep hb hc hg (by decide) (by decide) (by decide)
  have hwne := s.wne b (List.mem_of_getElem? hk)
  have hset : ∀ x ∈ T.set k ⟨b.bb, b.bm, M', clock'⟩, (x = ⟨b.bb, b.bm, M', clock'⟩) ∨ (x ∈ T ∧ x.bm ≠ b.bm) := by
    intro x hx
    obtain ⟨i, hi⟩ := List.getElem?_of_mem hx
    rw [List.getElem?_set] at hi
    split at hi
    · split at hi
      · exact .inl (Option.some.inj hi).symm
      · cases hi
    · rename_i hne
      refine .inr ⟨List.mem_of_getElem? hi, ?_⟩
      rcases Nat.lt_trichotomy i k with h3 | h3 | h3
      · exact pw_get.1 s.dist i k x b h3 hi hk
      · exact absurd h3.symm hne
      · exact fun e => pw_get.1 s.dist k i b x h3 hk hi e.symm
  refine ⟨by omega, (f.keep hb h1 s.cellt (by decide) (by decide) (by decide)).trans s.cellt, Sl.congr k1.1 (List.length_set ..) (set_flat hk _ _), k1.2, by omega, by rw [fl]; exact s.low, (f.keepMap hb h2 s.cellw hwne).trans s.cellw, ?_, ?_, ?_, is'.pool, by rw [List.length_set]; exact s.cS, by rw [List.length_set]; exact s.s1, s.hd⟩
  · intro x hx
    rcases hset x hx with rfl | ⟨hx, hne⟩
    · exact is'
    · exact hb.aside f (s.bk x hx) hne is'.pool
  · refine pw_set s.dist (fun j q hj hq => pw_get.1 s.dist j k q b hj hq hk) (fun j q hj hq => pw_get.1 s.dist k j b q hj hk hq)
  · intro x hx
    rcases hset x hx with rfl | ⟨hx, _⟩
    · exact hwne
    · exact s.wne x hx
end Go.Proofs

namespace Go.Proofs
open Go.Vai Go.Clashes
theorem flat_split {α β : Type} (f : α → List β) {T : List α} {k : Nat} {b : α} (hk : T[k]? = some b) : ∃ X, ∀ b', ((T.set k b').flatMap f).Perm (f b' ++ X) := by
  obtain ⟨hl, _⟩ := List.getElem?_eq_some_iff.1 hk
  refine ⟨(T.take k).flatMap f ++ (T.drop (k + 1)).flatMap f, fun b' => ?_⟩
  rw [List.set_eq_take_append_cons_drop, if_pos hl, List.flatMap_append, List.flatMap_cons]
  exact List.perm_append_comm_assoc _ _ _
theorem set_self {α : Type} {T : List α} {k : Nat} {b : α} (hk : T[k]? = some b) : T.set k b = T := by
  refine List.ext_getElem? fun i => ?_
  rw [List.getElem?_set]
  split
  · rename_i e; subst e; rw [hk, if_pos (List.getElem?_eq_some_iff.1 hk).1]
  · rfl
/-! ## what a call does to the numbers of a bucket -/
section
variable {h h' : Heap} {bb bm bp bl most : Nat} {M M' : List HE} {clock clock' : Nat} {F F' : List Int} {B B' : List Bool}
theorem Asked.ids (s : BucketIs h bb bm bp bl most M clock F B) {t r x m : Int} {n : Nat} {g : Bool} (a : Asked h h' bb bm bp bl most M M' clock' F F' B t r x m n g) : (idsM M').Perm (idsM M ++ [(n : Int)]) := by
  obtain ⟨Q, w, hold, vq, vq', _, hset⟩ := a.set
  have hrest : (idsM M).Perm (idsM (M.filter fun x => !isN t r x) ++ Q.map (·.id)) := by
    rcases hold with ⟨e, he, rfl, rfl, rfl, rfl⟩ | ⟨hn, hl, rfl, rfl⟩
    · have := idsM_perm (split_has s.ok he)
      rw [idsM_append, idsM_one] at this
      exact this
    · rw [split_not hn]; simp
  refine hset.ids.trans ?_
  rw [scan_ids vq', List.map_append, List.map_cons, List.map_nil, askR_id, ← List.append_assoc]
  exact (hrest.symm).append_right _
theorem Asked.len (s : BucketIs h bb bm bp bl most M clock F B) (hl : M.length ≤ most) {t r x m : Int} {n : Nat} {g : Bool} (a : Asked h h' bb bm bp bl most M M' clock' F F' B t r x m n g) : M'.length ≤ most := by
  obtain ⟨Q, w, hold, vq, vq', _, hset⟩ := a.set
  have := hset.len
  rcases hold with ⟨e, he, rfl, rfl, rfl, rfl⟩ | ⟨hn, hl, rfl, rfl⟩
  · have := len_has s.ok he; omega
  · rw [split_not hn] at this; omega
theorem Asked.wb {N : Nat} (hw : ∀ e ∈ M, e.w ≤ N) {t r x m : Int} {n : Nat} {g : Bool} (a : Asked h h' bb bm bp bl most M M' clock' F F' B t r x m n g) : ∀ e ∈ M', e.w ≤ (N + 1 : Nat) := by
  obtain ⟨Q, w, hold, vq, vq', _, hset⟩ := a.set
  refine hset.wb hw ?_
  have := askR_w Q w n x m
  rcases hold with ⟨e, he, _, _, _, rfl⟩ | ⟨_, _, _, rfl⟩
  · have := hw e he; omega
  · omega
theorem Asked.sub {t r x m : Int} {n : Nat} {g : Bool} (a : Asked h h' bb bm bp bl most M M' clock' F F' B t r x m n g) : ∀ y ∈ M', (∃ e ∈ M, e.t = y.t ∧ e.r = y.r) ∨ (y.t = t ∧ y.r = r) := by
  obtain ⟨Q, w, _, _, _, _, hset⟩ := a.set
  intro y hy
  rcases hset.sub y hy with h | ⟨h1, h2, _⟩
  · exact .inl ⟨y, h, rfl, rfl⟩
  · exact .inr ⟨h1, h2⟩
variable {e : HE} {Q1 : List R5} {w1 : Int}
theorem Moved.ids_same (s : BucketIs h bb bm bp bl most M clock F B) (he : e ∈ M) (m : Moved h h' bb bm bp bl most M M' clock' F' B' e Q1 w1) (hid : Q1.map (·.id) = e.Q.map (·.id)) : (idsM M').Perm (idsM M) := by
  refine m.set.ids.trans ?_
  rw [scan_ids m.vq, hid]
  have := idsM_perm (split_has s.ok he)
  rw [idsM_append, idsM_one] at this
  exact this.symm
theorem Moved.ids_left (s : BucketIs h bb bm bp bl most M clock F B) (he : e ∈ M) {p : R5} {n : Nat} (hf : findQ e.Q (n : Int) = some p) (m : Moved h h' bb bm bp bl most M M' clock' F' B' e (e.Q.filter fun r => !placeR (n : Int) r) w1) : (idsM M).Perm (idsM M' ++ [(n : Int)]) := by
  have h1 := idsM_perm (split_has s.ok he)
  rw [idsM_append, idsM_one] at h1
  have h2 := h1.trans (List.Perm.append_left (idsM (M.filter fun x => !isN e.t e.r x)) (filter_ids (s.good e he).vq hf))
  rw [← List.append_assoc] at h2
  have h3 := m.set.ids
  rw [scan_ids m.vq] at h3
  exact h2.trans (h3.symm.append_right _)
theorem Moved.len (s : BucketIs h bb bm bp bl most M clock F B) (hl : M.length ≤ most) (he : e ∈ M) (m : Moved h h' bb bm bp bl most M M' clock' F' B' e Q1 w1) : M'.length ≤ most := by
  have := m.set.len
  have := len_has s.ok he
  omega
theorem Moved.sub (he : e ∈ M) (m : Moved h h' bb bm bp bl most M M' clock' F' B' e Q1 w1) : ∀ y ∈ M', ∃ e ∈ M, e.t = y.t ∧ e.r = y.r := by
  intro y hy
  rcases m.set.sub y hy with h | ⟨h1, h2, _⟩
  · exact ⟨y, h, rfl, rfl⟩
  · exact ⟨e, he, h1.symm, h2.symm⟩
end
/-! ## what every call of a table keeps -/
structure TSt (h : Heap) (tb bw bp bl : Nat) (c : Caps) (vb : Value) (heads N : Nat) (T : List TB) (W : List IE) (wc : Nat) (F : List Int) (B : List Bool) : Prop where
  is : TableIs h tb bw bp bl c vb heads T W wc F B
  ids : (T.flatMap fun b => idsM b.M).Perm (lentL B)
  wh : ∀ (k : Nat) (b : TB), T[k]? = some b → ∀ e ∈ b.M, ∀ p ∈ e.Q, lkI W p.id = some (k : Int)
  nm : ∀ (k : Nat) (b : TB), T[k]? = some b → ∀ e ∈ b.M, strN e.t e.r c.S = (k : Int)
  wb : ∀ b ∈ T, ∀ e ∈ b.M, e.w ≤ N
  len : ∀ b ∈ T, b.M.length ≤ heads
  cR : (B.length : Int) = c.R
  cH : (heads : Int) = c.H
section
variable {h h' : Heap} {tb bw bp bl : Nat} {c : Caps} {vb : Value} {heads N : Nat} {T : List TB} {W : List IE} {wc : Nat} {F F' : List Int} {B B' : List Bool}
theorem TSt.idsIn (s : TSt h tb bw bp bl c vb heads N T W wc F B) {k : Nat} {b : TB} (hk : T[k]? = some b) : IdsIn b.M B := by
  obtain ⟨X, hX⟩ := flat_split (fun b : TB => idsM b.M) hk
  have := hX b
  rw [set_self hk] at this
  exact ⟨X, this.symm.trans s.ids⟩
theorem TSt.le (s : TSt h tb bw bp bl c vb heads N T W wc F B) (l : Le h h') : TSt h' tb bw bp bl c vb heads N T W wc F B := ⟨s.is.le l, s.ids, s.wh, s.nm, s.wb, s.len, s.cR, s.cH⟩
theorem TSt.up {N' : Nat} (s : TSt h tb bw bp bl c vb heads N T W wc F B) (hN : N ≤ N') : TSt h tb bw bp bl c vb heads N' T W wc F B := ⟨s.is, s.ids, s.wh, s.nm, fun b hb e he => by have := s.wb b hb e he; omega, s.len, s.cR, s.cH⟩
theorem set_cases {α : Type} {T : List α} {k j : Nat} {b' x : α} (h : (T.set k b')[j]? = some x) : (j = k ∧ x = b') ∨ (j ≠ k ∧ T[j]? = some x) := by
  rw [List.getElem?_set] at h
  split at h
  · rename_i e
    split at h
    · exact .inl ⟨e.symm, (Option.some.inj h).symm⟩
    · cases h
  · rename_i e; exact .inr ⟨fun e' => e e'.symm, h⟩
theorem mem_idsM {M : List HE} {i : Int} : i ∈ idsM M ↔ ∃ e ∈ M, ∃ p ∈ e.Q, p.id = i := by
  unfold idsM
  rw [List.mem_flatMap]
  constructor
  · rintro ⟨e, he, hi⟩
    obtain ⟨p, hp, rfl⟩ := List.mem_map.1 hi
    exact ⟨e, he, p, hp, rfl⟩
  · rintro ⟨e, he, p, hp, rfl⟩
    exact ⟨e, he, List.mem_map.2 ⟨p, hp, rfl⟩⟩
/-- a bucket is changed, and no number is new -/
theorem TSt.step (s : TSt h tb bw bp bl c vb heads N T W wc F B) {k : Nat} {b : TB} (hk : T[k]? = some b) {M' : List HE} {clock' : Nat} (is' : BucketIs h' b.bb b.bm bp bl heads M' clock' F' B') (f : FrQ b.bm bp bl h h')
    (hids : ∀ X, (idsM b.M ++ X).Perm (lentL B) → (idsM M' ++ X).Perm (lentL B')) (hsub : ∀ i ∈ idsM M', i ∈ idsM b.M) (hnm : ∀ y ∈ M', ∃ e ∈ b.M, e.t = y.t ∧ e.r = y.r) (hw : ∀ e ∈ M', e.w ≤ (N + 1 : Nat)) (hl : M'.length ≤ heads) (hB : B'.length = B.length) :
    TSt h' tb bw bp bl c vb heads (N + 1) (T.set k ⟨b.bb, b.bm, M', clock'⟩) W wc F' B' := by
  obtain ⟨X, hX⟩ := flat_split (fun b : TB => idsM b.M) hk
  have h0 := hX b
  rw [set_self hk] at h0
  refine ⟨s.is.change hk is' f, (hX _).trans (hids X (h0.symm.trans s.ids)), ?_, ?_, ?_, ?_, by rw [hB]; exact s.cR, s.cH⟩
  · intro j x hj e he p hp
    rcases set_cases hj with ⟨rfl, rfl⟩ | ⟨_, hj⟩
    · obtain ⟨e0, he0, p0, hp0, hpe⟩ := mem_idsM.1 (hsub p.id (mem_idsM.2 ⟨e, he, p, hp, rfl⟩))
      rw [← hpe]; exact s.wh j b hk e0 he0 p0 hp0
    · exact s.wh j x hj e he p hp
  · intro j x hj e he
    rcases set_cases hj with ⟨rfl, rfl⟩ | ⟨_, hj⟩
    · obtain ⟨e0, he0, h1, h2⟩ := hnm e he
      rw [← h1, ← h2]; exact s.nm j b hk e0 he0
    · exact s.nm j x hj e he
  · intro x hx e he
    obtain ⟨j, hj⟩ := List.getElem?_of_mem hx
    rcases set_cases hj with ⟨rfl, rfl⟩ | ⟨_, hj⟩
    · exact hw e he
    · have := s.wb x (List.mem_of_getElem? hj) e he; omega
  · intro x hx
    obtain ⟨j, hj⟩ := List.getElem?_of_mem hx
    rcases set_cases hj with ⟨rfl, rfl⟩ | ⟨_, hj⟩
    · exact hl
    · exact s.len x (List.mem_of_getElem? hj)
end
end Go.Proofs

namespace Go.Proofs
open Go.Vai Go.Clashes
theorem eqTbk (h : Heap) (b o : Nat) : eqB Tryz.prog h 100 30 (.pointer (some ⟨b, o, none⟩)) (.pointer none) = some false := by kernel_rfl
theorem bin_eqTb {β : Type} {fl : β} (cn : Bool) (b o : Nat) (h : Heap) (κ : Value → Heap → β) : binB fl Tryz.prog .eql 30 cn false (.pointer (some ⟨b, o, none⟩)) (.pointer none) h κ = κ (.bool false) h := by simp only [binB, eqTbk, fbK_eq]
theorem eqB0k (h : Heap) : eqB Tryz.prog h 100 89 (.pointer none) (.pointer none) = some true := by kernel_rfl
theorem bin_eqB0 {β : Type} {fl : β} (cn : Bool) (h : Heap) (κ : Value → Heap → β) : binB fl Tryz.prog .eql 89 cn false (.pointer none) (.pointer none) h κ = κ (.bool true) h := by simp only [binB, eqB0k, fbK_eq]
/-- what a call of a table leaves alone -/
structure FrT (Ts : List TB) (bw bp bl : Nat) (h h' : Heap) : Prop where
  nx : h.nx ≤ h'.nx
  lo : h'.lo = h.lo
  get : ∀ c, c < h.nx → (∀ b ∈ Ts, c ≠ b.bm) → c ≠ bw → c ≠ bp → c ≠ bl → (∀ vs, h.bl.get c ≠ some (cellsO vs 3 true)) → h'.bl.get c = h.bl.get c
  g2 : bp < h.nx → ∀ c, c < h.nx → (∀ b ∈ Ts, c ≠ b.bm) → c ≠ bw → c ≠ bp → c ≠ bl → ¬ FB h bp c → h'.bl.get c = h.bl.get c
  mv : bp < h.nx → ∀ c, c < h.nx → FB h' bp c → FB h bp c
theorem FrT.of_le {Ts : List TB} {bw bp bl : Nat} {h h' : Heap} (l : Le h h') : FrT Ts bw bp bl h h' := ⟨l.nx, l.lo, fun c hc _ _ _ _ _ => l.get c hc, fun _ c hc _ _ _ _ _ => l.get c hc, fun hb c _ x => (FB.congr (l.get bp hb)).1 x⟩
theorem FrT.trans {Ts : List TB} {bw bp bl : Nat} {h h' h'' : Heap} (a : FrT Ts bw bp bl h h') (b : FrT Ts bw bp bl h' h'') : FrT Ts bw bp bl h h'' :=
  ⟨Nat.le_trans a.nx b.nx, b.lo.trans a.lo, fun c hc h1 h2 h3 h4 h5 => (b.get c (Nat.lt_of_lt_of_le hc a.nx) h1 h2 h3 h4 (fun vs => by rw [a.get c hc h1 h2 h3 h4 h5]; exact h5 vs)).trans (a.get c hc h1 h2 h3 h4 h5),
    fun hb c hc h1 h2 h3 h4 h5 => (b.g2 (Nat.lt_of_lt_of_le hb a.nx) c (Nat.lt_of_lt_of_le hc a.nx) h1 h2 h3 h4 fun x => h5 (a.mv hb c hc x)).trans (a.g2 hb c hc h1 h2 h3 h4 h5),
    fun hb c hc x => a.mv hb c hc (b.mv (Nat.lt_of_lt_of_le hb a.nx) c (Nat.lt_of_lt_of_le hc a.nx) x)⟩
theorem FrT.of_Q {Ts : List TB} {b : TB} (hb : b ∈ Ts) {bw bp bl : Nat} {h h' : Heap} (f : FrQ b.bm bp bl h h') : FrT Ts bw bp bl h h' := ⟨f.nx, f.lo, fun c hc h1 _ h3 h4 h5 => f.get c hc (h1 b hb) h3 h4 h5, fun hp c hc h1 _ h3 h4 h5 => f.g2 hp c hc (h1 b hb) h3 h4 h5, f.mv⟩
theorem FrT.set {Ts : List TB} {k : Nat} {b : TB} (hk : Ts[k]? = some b) {M' : List HE} {clock' : Nat} {bw bp bl : Nat} {h h' : Heap} : FrT (Ts.set k ⟨b.bb, b.bm, M', clock'⟩) bw bp bl h h' ↔ FrT Ts bw bp bl h h' := by
  have key : ∀ c : Nat, (∀ x ∈ Ts.set k ⟨b.bb, b.bm, M', clock'⟩, c ≠ x.bm) ↔ ∀ x ∈ Ts, c ≠ x.bm := by
    intro c
    obtain ⟨hl, _⟩ := List.getElem?_eq_some_iff.1 hk
    constructor
    · intro h x hx
      obtain ⟨j, hj⟩ := List.getElem?_of_mem hx
      by_cases e : k = j
      · subst e
        rw [hk] at hj; cases hj
        exact h ⟨b.bb, b.bm, M', clock'⟩ (List.mem_of_getElem? (i := k) (by rw [List.getElem?_set, if_pos rfl, if_pos hl]))
      · exact h x (List.mem_of_getElem? (i := j) (by rw [List.getElem?_set, if_neg e]; exact hj))
    · intro h x hx
      obtain ⟨j, hj⟩ := List.getElem?_of_mem hx
      rcases set_cases hj with ⟨rfl, rfl⟩ | ⟨_, hj⟩
      · exact h b (List.mem_of_getElem? hk)
      · exact h x (List.mem_of_getElem? hj)
  constructor
  · intro f; exact ⟨f.nx, f.lo, fun c hc h1 => f.get c hc ((key c).2 h1), fun hp c hc h1 => f.g2 hp c hc ((key c).2 h1), f.mv⟩
  · intro f; exact ⟨f.nx, f.lo, fun c hc h1 => f.get c hc ((key c).1 h1), fun hp c hc h1 => f.g2 hp c hc ((key c).1 h1), f.mv⟩
section
variable {h : Heap} {tb bw bp bl : Nat} {c : Caps} {vb : Value} {heads N : Nat} {Ts : List TB} {W : List IE} {wc : Nat} {F : List Int} {B : List Bool}
theorem tstripe_w (s : TableIs h tb bw bp bl c vb heads Ts W wc F B) (hlo : h.lo ≤ h.nx) (t r : Int) (κ : Value → Heap → Prop) (hk : ∀ h', Le h h' → κ (.int .i64 (strN t r c.S)) h') :
    CallW Tryz.prog 12 [.pointer (some ⟨tb, 0, none⟩), nmV t r] h κ := by
  refine callW_of mixed ?_
  rw [rs_12]
  simp (disch := first | omega | (simp only [Wx]; done) | (simp only [Wy]; done) | (simp only [Wv]; omega) | with_unfolding_all rfl) only [Wz, ptrTo, sliceTo, nmV]
  obtain ⟨hA, e_hA⟩ : ∃ hA : Heap, hA = ⟨h.nx + 1, (h.bl.upd (h.nx) (cellsO [.int .i64 t, .int .i64 r] 24 false)), h.lo⟩ := ⟨_, rfl⟩
  have le_hA : Le h hA := by subst e_hA; exact ((Le.refl h).new _)
  have g1 : hA.bl.get (h.nx) = some (cellsO [.int .i64 t, .int .i64 r] 24 false) := by subst e_hA; exact T.get_upd_same _ _ _
  have n_hA : hA.nx = h.nx + 1 := by subst e_hA; rfl
  have l_hA : hA.lo = h.lo := by subst e_hA; rfl
  rw [← e_hA]
  clear e_hA
  have sA := s.le le_hA
  have gt := sA.cellt
  simp (disch := first | omega | (simp only [Wx]; done) | (simp only [Wy]; done) | (simp only [Wv]; omega) | with_unfolding_all rfl) only [Wz, ptrTo, sliceTo, bin_eqTb, rs_12_0, g1, nil_at, gt]
  refine stripe_w t r c.S ?_
  exact hk hA le_hA
theorem ldTB {h : Heap} {v : Value} {Ts : List TB} (hs : Sl encTB h v Ts) (i : Nat) {b : TB} (hp : Ts[i]? = some b) :
    ∃ c o, c < h.nx ∧ (∀ (β : Type) (fl : β) (h' : Heap) (κ : Value → Heap → β), indexAddrS fl 1 v (.int .i64 (i : Int)) h' κ = κ (.pointer (some ⟨c, o, none⟩)) h') ∧
      ∀ h', Le h h' → (∀ (β : Type) (fl : β) (κ : Value → β), ldO fl (h'.bl.get c) o κ = κ (.pointer (some ⟨b.bb, 0, none⟩))) := by
  obtain ⟨c, o, h1, h2, h3, hh⟩ := hs.ld encTB_len i hp
  refine ⟨c, o, h1, h2, fun h' l β fl κ => ?_⟩
  rw [l.get c h1]
  exact ldO_has (fl := fl) hh 0 κ (by show 0 < 1; omega)
theorem tnone_w (tb : Nat) (h : Heap) (κ : Value → Heap → Prop) (hk : κ (.int .i64 5) h) : CallW Tryz.prog 60 [.pointer (some ⟨tb, 0, none⟩)] h κ := by
  refine callW_of mixed ?_
  rw [rs_60]
  simp (disch := first | omega | (simp only [Wx]; done) | (simp only [Wy]; done) | (simp only [Wv]; omega) | with_unfolding_all rfl) only [Wz, ptrTo, sliceTo, bin_eqTb]
  exact hk
theorem tof_w (s : TSt h tb bw bp bl c vb heads N Ts W wc F B) (hlo : h.lo ≤ h.nx) (id : Int) (κ : Value → Heap → Prop)
    (hk0 : (∀ b ∈ Ts, ∀ e ∈ b.M, findQ e.Q id = none) → κ (.pointer none) h)
    (hk1 : ∀ (k : Nat) b e p, Ts[k]? = some b → e ∈ b.M → findQ e.Q id = some p → κ (.pointer (some ⟨b.bb, 0, none⟩)) h) :
    CallW Tryz.prog 59 [.pointer (some ⟨tb, 0, none⟩), .int .i64 id] h κ := by
  refine callW_of mixed ?_
  rw [rs_59]
  have gt := s.is.cellt
  simp (disch := first | omega | (simp only [Wx]; done) | (simp only [Wy]; done) | (simp only [Wv]; omega) | with_unfolding_all rfl) only [Wz, ptrTo, sliceTo, bin_eqTb, rs_59_0, nil_at, gt, lookI s.is.cellw]
  have lent : ∀ (k : Nat) b e p, Ts[k]? = some b → e ∈ b.M → findQ e.Q id = some p → lkI W id = some (k : Int) ∧ ∃ n : Nat, id = (n : Int) ∧ B[n]? = some true := by
    intro k b e p hb he hf
    obtain ⟨hp, hpi⟩ := findQ_some hf
    refine ⟨by rw [← hpi]; exact s.wh k b hb e he p hp, mem_lent.1 (s.ids.mem_iff.1 (List.mem_flatMap.2 ⟨b, List.mem_of_getElem? hb, mem_idsM.2 ⟨e, he, p, hp, hpi⟩⟩))⟩
  have none : lkI W id = none ∨ ¬ (∃ n : Nat, id = (n : Int) ∧ B[n]? = some true) → ∀ b ∈ Ts, ∀ e ∈ b.M, findQ e.Q id = none := by
    intro hc b hb e he
    obtain ⟨k, hk⟩ := List.getElem?_of_mem hb
    cases hf : findQ e.Q id with
    | none => rfl
    | some p =>
      obtain ⟨h1, h2⟩ := lent k b e p hk he hf
      rcases hc with hc | hc
      · rw [h1] at hc; cases hc
      · exact absurd h2 hc
  cases hl : lkI W id with
  | none =>
    simp (disch := first | omega | (simp only [Wx]; done) | (simp only [Wy]; done) | (simp only [Wv]; omega) | with_unfolding_all rfl) only [Wz, ptrTo, sliceTo, Option.isSome_none, Option.getD_none]
    exact hk0 (none (.inl hl))
  | some v =>
    simp (disch := first | omega | (simp only [Wx]; done) | (simp only [Wy]; done) | (simp only [Wv]; omega) | with_unfolding_all rfl) only [Wz, ptrTo, sliceTo, Option.isSome_some, Option.getD_some, nil_at, gt]
    refine has_w bp bl F B id h _ s.is.pool ?_
    by_cases hb : ∃ n : Nat, id = (n : Int) ∧ B[n]? = some true
    · obtain ⟨n, rfl, hn⟩ := hb
      have eh : (decide ((0 : Int) ≤ (n : Int)) && (B[((n : Int)).toNat]?).getD false) = true := by
        rw [dec_t (by omega), Int.toNat_natCast, hn]; rfl
      rw [eh]
      obtain ⟨b, hbT, hbi⟩ := List.mem_flatMap.1 (s.ids.mem_iff.2 (mem_lent.2 ⟨n, rfl, hn⟩))
      obtain ⟨e, he, p, hp, hpi⟩ := mem_idsM.1 hbi
      obtain ⟨k, hk⟩ := List.getElem?_of_mem hbT
      have hv : v = (k : Int) := by
        have := s.wh k b hk e he p hp
        rw [hpi, hl] at this
        exact Option.some.inj this
      subst hv
      have hf := findQ_mem ((s.is.bk b hbT).good e he).vq.pair hp
      rw [hpi] at hf
      obtain ⟨cc, oo, _, hix, hld⟩ := ldTB s.is.sl k hk
      have hld := hld h (Le.refl _)
      simp (disch := first | omega | (simp only [Wx]; done) | (simp only [Wy]; done) | (simp only [Wv]; omega) | with_unfolding_all rfl) only [Wz, ptrTo, sliceTo, nil_at, gt, hix, hld]
      exact hk1 k b e p hk he hf
    · have eh : (decide ((0 : Int) ≤ id) && (B[id.toNat]?).getD false) = false := by
        by_cases h0 : 0 ≤ id
        · have hne : B[id.toNat]? ≠ some true := fun e => hb ⟨id.toNat, by omega, e⟩
          rw [dec_t h0, Bool.true_and]
          cases hB : B[id.toNat]? with
          | none => rfl
          | some x => cases x with
            | false => rfl
            | true => exact absurd hB hne
        · rw [dec_f h0]; rfl
      rw [eh]
      simp (disch := first | omega | (simp only [Wx]; done) | (simp only [Wy]; done) | (simp only [Wv]; omega) | with_unfolding_all rfl) only [Wz, ptrTo, sliceTo]
      exact hk0 (none (.inr hb))
end
end Go.Proofs

namespace Go.Proofs
open Go.Vai Go.Clashes
theorem PoolIs.frame {h h' : Heap} {bp bl : Nat} {F : List Int} {B : List Bool} (p : PoolIs h bp bl F B) (hn : h.nx ≤ h'.nx) (hl : h'.lo = h.lo) (hc : ∀ c vs ty op, c < h.nx → h.bl.get c = some (cellsO vs ty op) → h'.bl.get c = h.bl.get c) : PoolIs h' bp bl F B := by
  have pl := p.lt
  have fl := p.fr.lt
  obtain ⟨fs, hg, hpt⟩ := p.fr.cell
  refine ⟨⟨by omega, by rw [hl]; exact p.fr.lo, fs, (hc _ _ _ _ fl hg).trans hg, ?_⟩, by omega, by rw [hl]; exact p.lo, (hc _ _ _ _ pl p.cell).trans p.cell, p.ok, p.small⟩
  rcases hpt with e | ⟨b, G, e, k1, k2, k3, k4⟩
  · exact .inl e
  · exact .inr ⟨b, G, e, by omega, by omega, (hc _ _ _ _ k1 k3).trans k3, k4⟩
theorem BucketIs.frame {h h' : Heap} {bb bm bp bl most clock : Nat} {M : List HE} {F : List Int} {B : List Bool} (s : BucketIs h bb bm bp bl most M clock F B) (hn : h.nx ≤ h'.nx) (hl : h'.lo = h.lo) (hc : ∀ c vs ty op, c < h.nx → h.bl.get c = some (cellsO vs ty op) → h'.bl.get c = h.bl.get c) (hm : h'.bl.get bm = h.bl.get bm) : BucketIs h' bb bm bp bl most M clock F B := by
  have sb := s.ltb
  have sm := s.ltm
  refine ⟨by omega, by omega, by rw [hl]; exact s.lom, (hc _ _ _ _ sb s.cellb).trans s.cellb, hm.trans s.cellm, s.ok, fun e he => ?_, s.good, s.pool.frame hn hl hc, s.ne⟩
  have a := s.heads e he
  have al := a.lt
  exact ⟨by omega, (hc _ _ _ _ al a.get).trans a.get, a.qv.frame hn fun c vs op h1 hg => hc c vs _ op h1 hg⟩
section
variable {h : Heap} {tb bw bp bl : Nat} {c : Caps} {vb : Value} {heads N : Nat} {Ts : List TB} {W : List IE} {wc : Nat} {F : List Int} {B : List Bool}
theorem TableIs.putW (s : TableIs h tb bw bp bl c vb heads Ts W wc F B) (W' : List IE) (wc' : Nat) : TableIs ⟨h.nx, h.bl.upd bw (.map (W'.map toI) wc'), h.lo⟩ tb bw bp bl c vb heads Ts W' wc' F B := by
  have gw := s.cellw
  have hc : ∀ c vs ty op, c < h.nx → h.bl.get c = some (cellsO vs ty op) → (h.bl.upd bw (.map (W'.map toI) wc')).get c = h.bl.get c := by
    intro c vs ty op _ hg
    refine T.get_updne _ _ ?_
    rintro rfl
    rw [hg] at gw
    exact cells_map gw.symm
  have hm : ∀ b ∈ Ts, (h.bl.upd bw (.map (W'.map toI) wc')).get b.bm = h.bl.get b.bm := fun b hb => T.get_updne _ _ (s.wne b hb)
  have k1 := Sl.keepTy (h' := ⟨h.nx, h.bl.upd bw (.map (W'.map toI) wc'), h.lo⟩) s.sl s.ty (Nat.le_refl _) fun c vs op h1 hg => hc c vs _ op h1 hg
  exact ⟨s.ltt, (hc _ _ _ _ s.ltt s.cellt).trans s.cellt, k1.1, k1.2, s.ltw, s.low, T.get_upd_same _ _ _, fun b hb => (s.bk b hb).frame (Nat.le_refl _) rfl hc (hm b hb), s.dist, s.wne, s.pool.frame (Nat.le_refl _) rfl hc, s.cS, s.s1, s.hd⟩
theorem FrT.putW {W' : List IE} {wc' : Nat} : FrT Ts bw bp bl h ⟨h.nx, h.bl.upd bw (.map (W'.map toI) wc'), h.lo⟩ :=
 by
  refine ⟨Nat.le_refl _, rfl, fun c _ _ h2 _ _ _ => T.get_updne _ _ (fun e => h2 e.symm), fun _ c _ _ h2 _ _ _ => T.get_updne _ _ (fun e => h2 e.symm), fun _ c _ hx => ?_⟩
  by_cases e : bw = bp
  · subst e
    obtain ⟨n, cap, ls, hx⟩ := hx
    exact absurd ((T.get_upd_same _ _ _).symm.trans hx) cells_map
  · exact (FB.congr (T.get_updne _ _ e)).1 hx
theorem strT (s : TableIs h tb bw bp bl c vb heads Ts W wc F B) {t r : Int} (hn : ¬ strN t r c.S < 0) : ∃ (k : Nat) (b : TB), strN t r c.S = (k : Int) ∧ Ts[k]? = some b := by
  have hr := strN_range (t := t) (r := r) (s := c.S) (by omega)
  have hS := s.cS
  refine ⟨(strN t r c.S).toNat, Ts[(strN t r c.S).toNat]'(by omega), by omega, List.getElem?_eq_getElem _⟩
/-- why a request is not accepted -/
def AskNo (Ts : List TB) (c : Caps) (heads : Nat) (F : List Int) (t r x m : Int) : Prop :=
  strN t r c.S < 0 ∨ ∃ (k : Nat) (b : TB), Ts[k]? = some b ∧ strN t r c.S = (k : Int) ∧ (askedM m = false ∨ (∃ e ∈ b.M, t = e.t ∧ r = e.r ∧ ∃ p ∈ e.Q, p.x = x) ∨ F = [] ∨ ((∀ e ∈ b.M, ¬ (t = e.t ∧ r = e.r)) ∧ heads ≤ b.M.length))
theorem tAskR_w (s : TSt h tb bw bp bl c vb heads N Ts W wc F B) (hlo : h.lo ≤ h.nx) (hN : N ≤ 1000) (t r x m : Int) (κ : Value → Heap → Prop)
    (hkE : ∀ h' (e : Int), (e = 2 ∨ e = 4 ∨ e = 8) → AskNo Ts c heads F t r x m → Le h h' → κ (.tuple ⟨[.int .i64 0, .bool false, .int .i64 e]⟩) h')
    (hkO : ∀ (k : Nat) (b : TB) M' clock' F' W' wc' h0 h1 h' n g, Ts[k]? = some b → strN t r c.S = (k : Int) → askedM m = true → (∀ e ∈ b.M, t = e.t → r = e.r → ∀ p ∈ e.Q, p.x ≠ x) → BucketIs h0 b.bb b.bm bp bl heads b.M b.clock F B → Asked h0 h1 b.bb b.bm bp bl heads b.M M' clock' F F' B t r x m n g →
      TSt h' tb bw bp bl c vb heads (N + 1) (Ts.set k ⟨b.bb, b.bm, M', clock'⟩) W' wc' F' (B.set n true) → FrT Ts bw bp bl h h' → κ (.tuple ⟨[.int .i64 (n : Int), .bool g, .int .i64 0]⟩) h') :
    CallW Tryz.prog 11 [.pointer (some ⟨tb, 0, none⟩), nmV t r, .int .i64 x, .int .i64 m] h κ := by
  refine callW_of mixed ?_
  rw [rs_11]
  simp (disch := first | omega | (simp only [Wx]; done) | (simp only [Wy]; done) | (simp only [Wv]; omega) | with_unfolding_all rfl) only [Wz, ptrTo, sliceTo, nmV, bin_eqTb]
  obtain ⟨hA, e_hA⟩ : ∃ hA : Heap, hA = ⟨h.nx + 1, (h.bl.upd (h.nx) (cellsO [.int .i64 t, .int .i64 r] 24 false)), h.lo⟩ := ⟨_, rfl⟩
  have le_hA : Le h hA := by subst e_hA; exact ((Le.refl h).new _)
  have g1 : hA.bl.get (h.nx) = some (cellsO [.int .i64 t, .int .i64 r] 24 false) := by subst e_hA; exact T.get_upd_same _ _ _
  have n_hA : hA.nx = h.nx + 1 := by subst e_hA; rfl
  have l_hA : hA.lo = h.lo := by subst e_hA; rfl
  rw [← e_hA]
  clear e_hA
  refine tstripe_w (s.le le_hA).is (by omega) t r _ ?_
  intro h2 le2
  have n_le2 := le2.nx
  have l_le2 := le2.lo
  have g1 := (le2.get _ (by omega)).trans g1
  have le02 := le_hA.trans le2
  have s2 := s.le le02
  by_cases hneg : strN t r c.S < 0
  · simp (disch := first | omega | (simp only [Wx]; done) | (simp only [Wy]; done) | (simp only [Wv]; omega) | with_unfolding_all rfl) only [Wz, ptrTo, sliceTo, dec_t hneg]
    exact hkE h2 2 (.inl rfl) (.inl hneg) le02
  obtain ⟨k, b, hst, hk⟩ := strT s.is hneg
  have hb := List.mem_of_getElem? hk
  have gt := s2.is.cellt
  obtain ⟨cc, oo, _, hix, hld⟩ := ldTB s2.is.sl k hk
  have hld := hld h2 (Le.refl _)
  rw [hst]
  simp (disch := first | omega | (simp only [Wx]; done) | (simp only [Wy]; done) | (simp only [Wv]; omega) | with_unfolding_all rfl) only [Wz, ptrTo, sliceTo, lt_f (show (0 : Int) ≤ (k : Int) by omega), rs_11_1, nil_at, gt, hix, hld, g1]
  refine askBk_w (s2.is.bk b hb) (by omega) (s2.idsIn hk) N (by omega) (s2.wb b hb) t r x m _ ?_ ?_ ?_ ?_
  · intro h3 am0 le3
    simp (disch := first | omega | (simp only [Wx]; done) | (simp only [Wy]; done) | (simp only [Wv]; omega) | with_unfolding_all rfl) only [Wz, ptrTo, sliceTo, veq_int, veq_bool]
    refine ⟨fun l h' => HQ h3 h', ?_, ?_⟩
    · simp (disch := first | omega | (simp only [Wx]; done) | (simp only [Wy]; done) | (simp only [Wv]; omega) | with_unfolding_all rfl) only [Wz, ptrTo, sliceTo, rs_11_0]
      rfl
    · rintro l h' hq
      cases (show h3 = h' from hq)
      exact hkE h3 2 (.inl rfl) (.inr ⟨k, b, hk, hst, .inl am0⟩) (le02.trans le3)
  · intro h3 e p _ he ht hr hp hx le3
    simp (disch := first | omega | (simp only [Wx]; done) | (simp only [Wy]; done) | (simp only [Wv]; omega) | with_unfolding_all rfl) only [Wz, ptrTo, sliceTo, veq_int, veq_bool]
    refine ⟨fun l h' => HQ h3 h', ?_, ?_⟩
    · simp (disch := first | omega | (simp only [Wx]; done) | (simp only [Wy]; done) | (simp only [Wv]; omega) | with_unfolding_all rfl) only [Wz, ptrTo, sliceTo, rs_11_0]
      rfl
    · rintro l h' hq
      cases (show h3 = h' from hq)
      exact hkE h3 4 (.inr (.inl rfl)) (.inr ⟨k, b, hk, hst, .inr (.inl ⟨e, he, ht, hr, p, hp, hx⟩)⟩) (le02.trans le3)
  · intro h3 _ _ hfull le3
    simp (disch := first | omega | (simp only [Wx]; done) | (simp only [Wy]; done) | (simp only [Wv]; omega) | with_unfolding_all rfl) only [Wz, ptrTo, sliceTo, veq_int, veq_bool]
    refine ⟨fun l h' => HQ h3 h', ?_, ?_⟩
    · simp (disch := first | omega | (simp only [Wx]; done) | (simp only [Wy]; done) | (simp only [Wv]; omega) | with_unfolding_all rfl) only [Wz, ptrTo, sliceTo, rs_11_0]
      rfl
    · rintro l h' hq
      cases (show h3 = h' from hq)
      exact hkE h3 8 (.inr (.inr rfl)) (.inr ⟨k, b, hk, hst, .inr (.inr hfull)⟩) (le02.trans le3)
  · intro M' clock' F' h3 n g am hno ak
    have is3 := s2.is.change hk ak.is ak.fr
    have n3 := ak.fr.nx
    have l3 := ak.fr.lo
    have gt3 := is3.cellt
    have low3 := is3.low
    simp (disch := first | omega | (simp only [Wx]; done) | (simp only [Wy]; done) | (simp only [Wv]; omega) | with_unfolding_all rfl) only [Wz, ptrTo, sliceTo, veq_int, veq_bool]
    refine ⟨fun l h' => ∃ W' wc', (∀ j, lkI W' j = if j = (n : Int) then some (k : Int) else lkI W j) ∧ h' = ⟨h3.nx, h3.bl.upd bw (.map (W'.map toI) wc'), h3.lo⟩, ?_, ?_⟩
    · simp (disch := first | omega | (simp only [Wx]; done) | (simp only [Wy]; done) | (simp only [Wv]; omega) | with_unfolding_all rfl) only [Wz, ptrTo, sliceTo, rs_11_0, nil_at, gt3]
      refine putI_w is3.cellw low3 _ _ _ ?_
      intro W' wc' hW
      exact ⟨W', wc', hW, rfl⟩
    · rintro l h' ⟨W', wc', hW, rfl⟩
      have fr : FrT Ts bw bp bl h ⟨h3.nx, h3.bl.upd bw (.map (W'.map toI) wc'), h3.lo⟩ := ((FrT.of_le le02).trans (FrT.of_Q hb ak.fr)).trans FrT.putW
      have hids := Asked.ids (s2.is.bk b hb) ak
      have hlent : ∀ i, i ∈ lentL B → i ≠ (n : Int) := by
        rintro i hi rfl
        obtain ⟨k', e, hk'⟩ := mem_lent.1 hi
        have : k' = n := (Int.ofNat.inj e).symm
        subst this
        rw [ak.old] at hk'; cases hk'
      have hin : ∀ i b', b' ∈ Ts → i ∈ idsM b'.M → i ≠ (n : Int) := fun i b' hb' hi => hlent i (s.ids.mem_iff.1 (List.mem_flatMap.2 ⟨b', hb', hi⟩))
      refine hkO k b M' clock' F' W' wc' h2 h3 _ n g hk hst am hno (s2.is.bk b hb) ak ⟨is3.putW W' wc', ?_, ?_, ?_, ?_, ?_, by rw [List.length_set]; exact s.cR, s.cH⟩ fr
      · obtain ⟨X, hX⟩ := flat_split (fun b : TB => idsM b.M) hk
        have h0 := hX b
        rw [set_self hk] at h0
        refine (hX _).trans ?_
        refine (hids.append_right X).trans ?_
        rw [List.append_assoc]
        refine ((List.Perm.append_left _ List.perm_append_comm).trans ?_).trans (lent_take ak.old).symm
        rw [← List.append_assoc]
        exact (h0.symm.trans s.ids).append_right _
      · intro j y hj e he p hp
        rw [hW]
        rcases set_cases hj with ⟨rfl, rfl⟩ | ⟨hne, hj⟩
        · have hpi := hids.mem_iff.1 (mem_idsM.2 ⟨e, he, p, hp, rfl⟩)
          rcases List.mem_append.1 hpi with h1 | h1
          · obtain ⟨e0, he0, p0, hp0, hpe⟩ := mem_idsM.1 h1
            rw [if_neg (hin _ b hb h1), ← hpe]
            exact s.wh j b hk e0 he0 p0 hp0
          · rw [List.mem_singleton] at h1
            rw [if_pos h1]
        · rw [if_neg (hin _ y (List.mem_of_getElem? hj) (mem_idsM.2 ⟨e, he, p, hp, rfl⟩))]
          exact s.wh j y hj e he p hp
      · intro j y hj e he
        rcases set_cases hj with ⟨rfl, rfl⟩ | ⟨_, hj⟩
        · rcases ak.sub e he with ⟨e0, he0, h1, h2⟩ | ⟨h1, h2⟩
          · rw [← h1, ← h2]; exact s.nm j b hk e0 he0
          · rw [h1, h2]; exact hst
        · exact s.nm j y hj e he
      · intro y hy e he
        obtain ⟨j, hj⟩ := List.getElem?_of_mem hy
        rcases set_cases hj with ⟨rfl, rfl⟩ | ⟨_, hj⟩
        · exact ak.wb (s.wb b hb) e he
        · have := s.wb y (List.mem_of_getElem? hj) e he; omega
      · intro y hy
        obtain ⟨j, hj⟩ := List.getElem?_of_mem hy
        rcases set_cases hj with ⟨rfl, rfl⟩ | ⟨_, hj⟩
        · exact Asked.len (s2.is.bk b hb) (s.len b hb) ak
        · exact s.len y (List.mem_of_getElem? hj)
theorem tAsk_w (s : TSt h tb bw bp bl c vb heads N Ts W wc F B) (hlo : h.lo ≤ h.nx) (hN : N ≤ 1000) (t r x m : Int) (κ : Value → Heap → Prop)
    (hkE : ∀ h' (e : Int), (e = 2 ∨ e = 4 ∨ e = 8) → Le h h' → κ (.tuple ⟨[.int .i64 0, .bool false, .int .i64 e]⟩) h')
    (hkO : ∀ (k : Nat) (b : TB) M' clock' F' W' wc' h0 h1 h' n g, Ts[k]? = some b → strN t r c.S = (k : Int) → askedM m = true → (∀ e ∈ b.M, t = e.t → r = e.r → ∀ p ∈ e.Q, p.x ≠ x) → BucketIs h0 b.bb b.bm bp bl heads b.M b.clock F B → Asked h0 h1 b.bb b.bm bp bl heads b.M M' clock' F F' B t r x m n g →
      TSt h' tb bw bp bl c vb heads (N + 1) (Ts.set k ⟨b.bb, b.bm, M', clock'⟩) W' wc' F' (B.set n true) → FrT Ts bw bp bl h h' → κ (.tuple ⟨[.int .i64 (n : Int), .bool g, .int .i64 0]⟩) h') :
    CallW Tryz.prog 11 [.pointer (some ⟨tb, 0, none⟩), nmV t r, .int .i64 x, .int .i64 m] h κ :=
  tAskR_w s hlo hN t r x m κ (fun h' e he _ l => hkE h' e he l) hkO
end
end Go.Proofs

namespace Go.Proofs
open Go.Vai Go.Clashes
theorem FrT.congr {Ts Ts' : List TB} (e : Ts'.map (·.bm) = Ts.map (·.bm)) {bw bp bl : Nat} {h h' : Heap} (f : FrT Ts bw bp bl h h') : FrT Ts' bw bp bl h h' := by
  have key : ∀ c : Nat, (∀ b ∈ Ts', c ≠ b.bm) → ∀ b ∈ Ts, c ≠ b.bm := fun c h1 b hb => by
    have : b.bm ∈ Ts'.map (·.bm) := by rw [e]; exact List.mem_map.2 ⟨b, hb, rfl⟩
    obtain ⟨b', hb', e'⟩ := List.mem_map.1 this
    rw [← e']; exact h1 b' hb'
  exact ⟨f.nx, f.lo, fun c hc h1 => f.get c hc (key c h1), fun hp c hc h1 => f.g2 hp c hc (key c h1), f.mv⟩
theorem set_bm {Ts : List TB} {k : Nat} {b : TB} (hk : Ts[k]? = some b) (M' : List HE) (clock' : Nat) : (Ts.set k ⟨b.bb, b.bm, M', clock'⟩).map (·.bm) = Ts.map (·.bm) := by
  obtain ⟨hl, rfl⟩ := List.getElem?_eq_some_iff.1 hk
  rw [List.map_set]
  refine List.ext_getElem? fun i => ?_
  rw [List.getElem?_set]
  split
  · rename_i e; subst e
    rw [if_pos (by simpa using hl), List.getElem?_map, List.getElem?_eq_getElem hl]; rfl
  · rfl
section
variable {h h' : Heap} {tb bw bp bl : Nat} {c : Caps} {vb : Value} {heads N : Nat} {Ts : List TB} {W : List IE} {wc : Nat} {F F' : List Int} {B : List Bool}
theorem TSt.moved (s : TSt h tb bw bp bl c vb heads N Ts W wc F B) {k : Nat} {b : TB} (hk : Ts[k]? = some b) {M' : List HE} {clock' : Nat} {e : HE} (he : e ∈ b.M) {Q1 : List R5} {w1 : Int} (m : Moved h h' b.bb b.bm bp bl heads b.M M' clock' F' B e Q1 w1)
    (hid : Q1.map (·.id) = e.Q.map (·.id)) (hw : w1 ≤ e.w + 1) : TSt h' tb bw bp bl c vb heads (N + 1) (Ts.set k ⟨b.bb, b.bm, M', clock'⟩) W wc F' B := by
  have hb := List.mem_of_getElem? hk
  have is := s.is.bk b hb
  have hp := m.ids_same is he hid
  have hwe := s.wb b hb e he
  exact s.step hk m.is m.fr (fun X hX => (hp.append_right X).trans hX) (fun i hi => hp.mem_iff.1 hi) (m.sub he) (m.set.wb (s.wb b hb) (by omega)) (m.len is (s.len b hb) he) rfl
theorem TSt.left (s : TSt h tb bw bp bl c vb heads N Ts W wc F B) {k : Nat} {b : TB} (hk : Ts[k]? = some b) {M' : List HE} {clock' : Nat} {e : HE} (he : e ∈ b.M) {p : R5} {n : Nat} (hf : findQ e.Q (n : Int) = some p) (hbn : B[n]? = some true) (m : Moved h h' b.bb b.bm bp bl heads b.M M' clock' F' (B.set n false) e (e.Q.filter fun r => !placeR (n : Int) r) e.w) :
    TSt h' tb bw bp bl c vb heads (N + 1) (Ts.set k ⟨b.bb, b.bm, M', clock'⟩) W wc F' (B.set n false) := by
  have hb := List.mem_of_getElem? hk
  have is := s.is.bk b hb
  have hp := m.ids_left is he hf
  have hwe := s.wb b hb e he
  refine s.step hk m.is m.fr (fun X hX => ?_) (fun i hi => hp.mem_iff.2 (List.mem_append.2 (.inl hi))) (m.sub he) (m.set.wb (s.wb b hb) (by omega)) (m.len is (s.len b hb) he) (List.length_set ..)
  have h1 := (hp.append_right X).symm.trans (hX.trans (lent_give hbn))
  rw [List.append_assoc] at h1
  have h2 := (List.Perm.append_left (idsM M') (List.perm_append_comm (l₁ := X) (l₂ := [(n : Int)]))).trans h1
  rw [← List.append_assoc] at h2
  exact (List.perm_append_right_iff _).1 h2
theorem tLeave_w (s : TSt h tb bw bp bl c vb heads N Ts W wc F B) (hlo : h.lo ≤ h.nx) (id : Int) (κ : Value → Heap → Prop)
    (hk5 : (∀ b ∈ Ts, ∀ e ∈ b.M, findQ e.Q id = none) → κ (.tuple ⟨[.slice none 0 0, .int .i64 5]⟩) h)
    (hk0 : ∀ (k : Nat) (b : TB) h' M' clock' F' v' e p (n : Nat), Ts[k]? = some b → e ∈ b.M → findQ e.Q id = some p → id = (n : Int) → B[n]? = some true → F'.Perm (F ++ [(n : Int)]) →
      Moved h h' b.bb b.bm bp bl heads b.M M' clock' F' (B.set n false) e (e.Q.filter fun r => !placeR id r) e.w → OwnI h h' v' (scanQ (cntW (e.Q.filter fun r => !placeR id r) + 1) (e.Q.filter fun r => !placeR id r)).2 → TSt h' tb bw bp bl c vb heads (N + 1) (Ts.set k ⟨b.bb, b.bm, M', clock'⟩) W wc F' (B.set n false) → κ (.tuple ⟨[v', .int .i64 0]⟩) h') :
    CallW Tryz.prog 17 [.pointer (some ⟨tb, 0, none⟩), .int .i64 id] h κ := by
  refine callW_of mixed ?_
  rw [rs_17]
  refine tof_w s hlo id _ ?_ ?_
  · intro hno
    simp (disch := first | omega | (simp only [Wx]; done) | (simp only [Wy]; done) | (simp only [Wv]; omega) | with_unfolding_all rfl) only [Wz, ptrTo, sliceTo, bin_eqB0]
    refine tnone_w tb h _ ?_
    exact hk5 hno
  · intro k b e p hk he hf
    have hb := List.mem_of_getElem? hk
    simp (disch := first | omega | (simp only [Wx]; done) | (simp only [Wy]; done) | (simp only [Wv]; omega) | with_unfolding_all rfl) only [Wz, ptrTo, sliceTo, bin_eqBk]
    refine leaveBk_w (s.is.bk b hb) hlo (s.idsIn hk) id _ ?_ ?_
    · intro h1 hno _
      rw [hno e he] at hf; cases hf
    · intro h1 M' clock' F' v' e1 p1 n he1 hf1 hid hbn hpF mv ho
      simp (disch := first | omega | (simp only [Wx]; done) | (simp only [Wy]; done) | (simp only [Wv]; omega) | with_unfolding_all rfl) only [Wz, ptrTo, sliceTo]
      have mv' := mv
      have hf' := hf1
      rw [hid] at hf' mv'
      exact hk0 k b h1 M' clock' F' v' e1 p1 n hk he1 hf1 hid hbn hpF mv ho (s.left hk he1 hf' hbn mv')
theorem tAbandon_w (s : TSt h tb bw bp bl c vb heads N Ts W wc F B) (hlo : h.lo ≤ h.nx) (id : Int) (κ : Value → Heap → Prop)
    (hk : ∀ u h' Ts' F' B', TSt h' tb bw bp bl c vb heads (N + 1) Ts' W wc F' B' → Ts'.map (·.bm) = Ts.map (·.bm) → FrT Ts bw bp bl h h' → κ u h') :
    CallW Tryz.prog 49 [.pointer (some ⟨tb, 0, none⟩), .int .i64 id] h κ := by
  refine callW_of mixed ?_
  rw [rs_49]
  refine tof_w s hlo id _ ?_ ?_
  · intro hno
    simp (disch := first | omega | (simp only [Wx]; done) | (simp only [Wy]; done) | (simp only [Wv]; omega) | with_unfolding_all rfl) only [Wz, ptrTo, sliceTo, bin_eqB0]
    refine tnone_w tb h _ ?_
    exact hk _ h Ts F B (s.up (Nat.le_succ _)) rfl (FrT.of_le (Le.refl _))
  · intro k b e p hkb he hf
    have hb := List.mem_of_getElem? hkb
    simp (disch := first | omega | (simp only [Wx]; done) | (simp only [Wy]; done) | (simp only [Wv]; omega) | with_unfolding_all rfl) only [Wz, ptrTo, sliceTo, bin_eqBk]
    refine abandonBk_w (s.is.bk b hb) hlo (s.idsIn hkb) id _ ?_ ?_ ?_ ?_
    · intro h1 hno _
      rw [hno e he] at hf; cases hf
    · intro h1 e1 p1 _ _ _ le1
      simp (disch := first | omega | (simp only [Wx]; done) | (simp only [Wy]; done) | (simp only [Wv]; omega) | with_unfolding_all rfl) only [Wz, ptrTo, sliceTo]
      exact hk _ h1 Ts F B ((s.le le1).up (Nat.le_succ _)) rfl (FrT.of_le le1)
    · intro h1 M' clock' F' v' e1 p1 n he1 hf1 _ _ hid hbn hpF mv ho
      simp (disch := first | omega | (simp only [Wx]; done) | (simp only [Wy]; done) | (simp only [Wv]; omega) | with_unfolding_all rfl) only [Wz, ptrTo, sliceTo]
      rw [hid] at hf1 mv
      exact hk _ h1 _ F' _ (s.left hkb he1 hf1 hbn mv) (set_bm hkb _ _) (FrT.of_Q hb mv.fr)
    · intro h1 M' clock' v' e1 p1 i he1 hi hf1 _ _ mv ho
      simp (disch := first | omega | (simp only [Wx]; done) | (simp only [Wy]; done) | (simp only [Wv]; omega) | with_unfolding_all rfl) only [Wz, ptrTo, sliceTo]
      exact hk _ h1 _ F B (s.moved hkb he1 mv (map_set_same hi rfl) (by omega)) (set_bm hkb _ _) (FrT.of_Q hb mv.fr)
theorem tHand_w (s : TSt h tb bw bp bl c vb heads N Ts W wc F B) (hlo : h.lo ≤ h.nx) (id x : Int) (κ : Value → Heap → Prop)
    (hk : ∀ u h' Ts' F' B', TSt h' tb bw bp bl c vb heads (N + 1) Ts' W wc F' B' → Ts'.map (·.bm) = Ts.map (·.bm) → FrT Ts bw bp bl h h' → κ u h') :
    CallW Tryz.prog 50 [.pointer (some ⟨tb, 0, none⟩), .int .i64 id, .int .i64 x] h κ := by
  refine callW_of mixed ?_
  rw [rs_50]
  refine tof_w s hlo id _ ?_ ?_
  · intro hno
    simp (disch := first | omega | (simp only [Wx]; done) | (simp only [Wy]; done) | (simp only [Wv]; omega) | with_unfolding_all rfl) only [Wz, ptrTo, sliceTo, bin_eqB0]
    refine tnone_w tb h _ ?_
    exact hk _ h Ts F B (s.up (Nat.le_succ _)) rfl (FrT.of_le (Le.refl _))
  · intro k b e p hkb he hf
    have hb := List.mem_of_getElem? hkb
    simp (disch := first | omega | (simp only [Wx]; done) | (simp only [Wy]; done) | (simp only [Wv]; omega) | with_unfolding_all rfl) only [Wz, ptrTo, sliceTo, bin_eqBk]
    refine handBk_w (s.is.bk b hb) hlo id x _ ?_ ?_ ?_ ?_
    · intro h1 hno _
      rw [hno e he] at hf; cases hf
    · intro h1 e1 p1 _ _ _ le1
      exact hk _ h1 Ts F B ((s.le le1).up (Nat.le_succ _)) rfl (FrT.of_le le1)
    · intro h1 e1 p1 _ _ _ _ le1
      exact hk _ h1 Ts F B ((s.le le1).up (Nat.le_succ _)) rfl (FrT.of_le le1)
    · intro h1 M' clock' e1 p1 i he1 hi hf1 _ _ mv
      exact hk _ h1 _ F B (s.moved hkb he1 mv (map_set_same hi rfl) (by omega)) (set_bm hkb _ _) (FrT.of_Q hb mv.fr)
theorem bin_neTb {β : Type} {fl : β} (cn : Bool) (b o : Nat) (h : Heap) (κ : Value → Heap → β) : binB fl Tryz.prog .neq 30 cn false (.pointer (some ⟨b, o, none⟩)) (.pointer none) h κ = κ (.bool true) h := by simp only [binB, eqTbk, fbK_eq, Bool.not_false]
theorem tUpgrade_w (s : TSt h tb bw bp bl c vb heads N Ts W wc F B) (hlo : h.lo ≤ h.nx) (hN : N ≤ 1000) (id m : Int) (κ : Value → Heap → Prop)
    (hk : ∀ u h' Ts' F' B', TSt h' tb bw bp bl c vb heads (N + 1) Ts' W wc F' B' → Ts'.map (·.bm) = Ts.map (·.bm) → FrT Ts bw bp bl h h' → κ u h') :
    CallW Tryz.prog 48 [.pointer (some ⟨tb, 0, none⟩), .int .i64 id, .int .i64 m] h κ := by
  have same : ∀ u h', Le h h' → κ u h' := fun u h' l => hk u h' Ts F B ((s.le l).up (Nat.le_succ _)) rfl (FrT.of_le l)
  refine callW_of mixed ?_
  rw [rs_48]
  refine tof_w s hlo id _ ?_ ?_
  · intro hno
    simp (disch := first | omega | (simp only [Wx]; done) | (simp only [Wy]; done) | (simp only [Wv]; omega) | with_unfolding_all rfl) only [Wz, ptrTo, sliceTo, bin_neTb]
    by_cases hm0 : m = 0
    · simp (disch := first | omega | (simp only [Wx]; done) | (simp only [Wy]; done) | (simp only [Wv]; omega) | with_unfolding_all rfl) only [Wz, ptrTo, sliceTo, dec_t hm0]
      exact same _ h (Le.refl _)
    · simp (disch := first | omega | (simp only [Wx]; done) | (simp only [Wy]; done) | (simp only [Wv]; omega) | with_unfolding_all rfl) only [Wz, ptrTo, sliceTo, dec_f hm0]
      refine known_w m ?_
      cases hkn : kn m with
      | false => simp (disch := first | omega | (simp only [Wx]; done) | (simp only [Wy]; done) | (simp only [Wv]; omega) | with_unfolding_all rfl) only [Wz, ptrTo, sliceTo]; exact same _ h (Le.refl _)
      | true =>
        simp (disch := first | omega | (simp only [Wx]; done) | (simp only [Wy]; done) | (simp only [Wv]; omega) | with_unfolding_all rfl) only [Wz, ptrTo, sliceTo, rs_48_0, bin_eqB0]
        refine tnone_w tb h _ ?_
        exact same _ h (Le.refl _)
  · intro k b e p hkb he hf
    have hb := List.mem_of_getElem? hkb
    simp (disch := first | omega | (simp only [Wx]; done) | (simp only [Wy]; done) | (simp only [Wv]; omega) | with_unfolding_all rfl) only [Wz, ptrTo, sliceTo, bin_neTb]
    by_cases hm0 : m = 0
    · simp (disch := first | omega | (simp only [Wx]; done) | (simp only [Wy]; done) | (simp only [Wv]; omega) | with_unfolding_all rfl) only [Wz, ptrTo, sliceTo, dec_t hm0]
      exact same _ h (Le.refl _)
    · simp (disch := first | omega | (simp only [Wx]; done) | (simp only [Wy]; done) | (simp only [Wv]; omega) | with_unfolding_all rfl) only [Wz, ptrTo, sliceTo, dec_f hm0]
      refine known_w m ?_
      cases hkn : kn m with
      | false => simp (disch := first | omega | (simp only [Wx]; done) | (simp only [Wy]; done) | (simp only [Wv]; omega) | with_unfolding_all rfl) only [Wz, ptrTo, sliceTo]; exact same _ h (Le.refl _)
      | true =>
        simp (disch := first | omega | (simp only [Wx]; done) | (simp only [Wy]; done) | (simp only [Wv]; omega) | with_unfolding_all rfl) only [Wz, ptrTo, sliceTo, rs_48_0, bin_eqBk]
        refine upgradeBk_w (s.is.bk b hb) hlo N (by omega) (s.wb b hb) id m _ ?_ ?_ ?_ ?_
        · intro h1 _ le1
          simp (disch := first | omega | (simp only [Wx]; done) | (simp only [Wy]; done) | (simp only [Wv]; omega) | with_unfolding_all rfl) only [Wz, ptrTo, sliceTo]
          exact same _ h1 le1
        · intro h1 _ _ le1
          simp (disch := first | omega | (simp only [Wx]; done) | (simp only [Wy]; done) | (simp only [Wv]; omega) | with_unfolding_all rfl) only [Wz, ptrTo, sliceTo]
          exact same _ h1 le1
        · intro h1 e1 p1 _ _ _ _ le1
          simp (disch := first | omega | (simp only [Wx]; done) | (simp only [Wy]; done) | (simp only [Wv]; omega) | with_unfolding_all rfl) only [Wz, ptrTo, sliceTo]
          exact same _ h1 le1
        · intro h1 M' clock' e1 p1 i _ he1 hi hf1 _ mv
          simp (disch := first | omega | (simp only [Wx]; done) | (simp only [Wy]; done) | (simp only [Wv]; omega) | with_unfolding_all rfl) only [Wz, ptrTo, sliceTo]
          exact hk _ h1 _ F B (s.moved hkb he1 mv (map_set_same hi (upgR_id _ _ _ _)) (upgR_w _ _ _ _)) (set_bm hkb _ _) (FrT.of_Q hb mv.fr)
theorem tcall_w (s : TSt h tb bw bp bl c vb heads N Ts W wc F B) (hlo : h.lo ≤ h.nx) (hN : N ≤ 1000) (a : Act) (κ : Value → Heap → Prop)
    (hk : ∀ h' Ts' W' wc' F' B', TSt h' tb bw bp bl c vb heads (N + 1) Ts' W' wc' F' B' → Ts'.map (·.bm) = Ts.map (·.bm) → FrT Ts bw bp bl h h' → κ (.tuple ⟨[]⟩) h') :
    CallW Tryz.prog 14 [.pointer (some ⟨tb, 0, none⟩), .agg ⟨encA a⟩] h κ := by
  refine callW_of mixed ?_
  rw [rs_14]
  simp (disch := first | omega | (simp only [Wx]; done) | (simp only [Wy]; done) | (simp only [Wv]; omega) | with_unfolding_all rfl) only [Wz, ptrTo, sliceTo, encA]
  obtain ⟨hA, e_hA⟩ : ∃ hA : Heap, hA = ⟨h.nx + 1, (h.bl.upd (h.nx) (cellsO [.int .i64 a.k, .int .i64 a.t, .int .i64 a.r, .int .i64 a.id, .int .i64 a.x, .int .i64 a.m] 35 false)), h.lo⟩ := ⟨_, rfl⟩
  have le_hA : Le h hA := by subst e_hA; exact ((Le.refl h).new _)
  have ga : hA.bl.get (h.nx) = some (cellsO [.int .i64 a.k, .int .i64 a.t, .int .i64 a.r, .int .i64 a.id, .int .i64 a.x, .int .i64 a.m] 35 false) := by subst e_hA; exact T.get_upd_same _ _ _
  have n_hA : hA.nx = h.nx + 1 := by subst e_hA; rfl
  have l_hA : hA.lo = h.lo := by subst e_hA; rfl
  rw [← e_hA]
  clear e_hA
  have sA := s.le le_hA
  have frA : FrT Ts bw bp bl h hA := FrT.of_le le_hA
  refine pick_w a.k 6 (by omega) ?_
  by_cases c2 : pickM a.k 6 = 2
  · simp (disch := first | omega | (simp only [Wx]; done) | (simp only [Wy]; done) | (simp only [Wv]; omega) | with_unfolding_all rfl) only [Wz, ptrTo, sliceTo, c2, ga]
    refine tUpgrade_w sA (by omega) hN a.id a.m _ ?_
    intro u h' Ts' F' B' s' hbm fr
    exact hk h' Ts' W wc F' B' s' hbm (frA.trans fr)
  by_cases c3 : pickM a.k 6 = 3
  · simp (disch := first | omega | (simp only [Wx]; done) | (simp only [Wy]; done) | (simp only [Wv]; omega) | with_unfolding_all rfl) only [Wz, ptrTo, sliceTo, c3, rs_14_3, ga]
    refine tLeave_w sA (by omega) a.id _ ?_ ?_
    · intro _
      exact hk hA Ts W wc F B (sA.up (Nat.le_succ _)) rfl frA
    · intro k b h' M' clock' F' v' e p n hkb _ _ _ _ _ mv _ s'
      exact hk h' _ W wc F' _ s' (set_bm hkb _ _) (frA.trans (FrT.of_Q (List.mem_of_getElem? hkb) mv.fr))
  by_cases c4 : pickM a.k 6 = 4
  · simp (disch := first | omega | (simp only [Wx]; done) | (simp only [Wy]; done) | (simp only [Wv]; omega) | with_unfolding_all rfl) only [Wz, ptrTo, sliceTo, c4, rs_14_3, rs_14_2, ga]
    refine tAbandon_w sA (by omega) a.id _ ?_
    intro u h' Ts' F' B' s' hbm fr
    exact hk h' Ts' W wc F' B' s' hbm (frA.trans fr)
  by_cases c5 : pickM a.k 6 = 5
  · simp (disch := first | omega | (simp only [Wx]; done) | (simp only [Wy]; done) | (simp only [Wv]; omega) | with_unfolding_all rfl) only [Wz, ptrTo, sliceTo, c5, rs_14_3, rs_14_2, rs_14_1, ga]
    refine tHand_w sA (by omega) a.id a.x _ ?_
    intro u h' Ts' F' B' s' hbm fr
    exact hk h' Ts' W wc F' B' s' hbm (frA.trans fr)
  · simp (disch := first | omega | (simp only [Wx]; done) | (simp only [Wy]; done) | (simp only [Wv]; omega) | with_unfolding_all rfl) only [Wz, ptrTo, sliceTo, dec_f c2, dec_f c3, dec_f c4, dec_f c5, rs_14_3, rs_14_2, rs_14_1, rs_14_0, ga]
    refine tAsk_w sA (by omega) hN a.t a.r a.x a.m _ ?_ ?_
    · intro h' e _ l
      exact hk h' Ts W wc F B ((sA.le l).up (Nat.le_succ _)) rfl (frA.trans (FrT.of_le l))
    · intro k b M' clock' F' W' wc' h0 h1 h' n g hkb _ _ _ _ _ s' fr
      exact hk h' _ W' wc' F' _ s' (set_bm hkb _ _) (frA.trans fr)
end
end Go.Proofs

namespace Go.Proofs
open Go.Vai Go.Clashes
theorem PoolIs.frame2 {h h' : Heap} {bp bl : Nat} {F : List Int} {B : List Bool} (p : PoolIs h bp bl F B) (hn : h.nx ≤ h'.nx) (hl : h'.lo = h.lo) (hc : ∀ c vs ty op, c < h.nx → ty ≠ 89 → ty ≠ 88 → h.bl.get c = some (cellsO vs ty op) → h'.bl.get c = h.bl.get c) : PoolIs h' bp bl F B := by
  have pl := p.lt
  have fl := p.fr.lt
  obtain ⟨fs, hg, hpt⟩ := p.fr.cell
  refine ⟨⟨by omega, by rw [hl]; exact p.fr.lo, fs, (hc _ _ _ _ fl (by decide) (by decide) hg).trans hg, ?_⟩, by omega, by rw [hl]; exact p.lo, (hc _ _ _ _ pl (by decide) (by decide) p.cell).trans p.cell, p.ok, p.small⟩
  rcases hpt with e | ⟨b, G, e, k1, k2, k3, k4⟩
  · exact .inl e
  · exact .inr ⟨b, G, e, by omega, by omega, (hc _ _ _ _ k1 (by decide) (by decide) k3).trans k3, k4⟩
theorem BucketIs.frame2 {h h' : Heap} {bb bm bp bl most clock : Nat} {M : List HE} {F : List Int} {B : List Bool} (s : BucketIs h bb bm bp bl most M clock F B) (hn : h.nx ≤ h'.nx) (hl : h'.lo = h.lo) (hc : ∀ c vs ty op, c < h.nx → ty ≠ 89 → ty ≠ 88 → h.bl.get c = some (cellsO vs ty op) → h'.bl.get c = h.bl.get c) (hm : h'.bl.get bm = h.bl.get bm) : BucketIs h' bb bm bp bl most M clock F B := by
  have sb := s.ltb
  have sm := s.ltm
  refine ⟨by omega, by omega, by rw [hl]; exact s.lom, (hc _ _ _ _ sb (by decide) (by decide) s.cellb).trans s.cellb, hm.trans s.cellm, s.ok, fun e he => ?_, s.good, s.pool.frame2 hn hl hc, s.ne⟩
  have a := s.heads e he
  have al := a.lt
  exact ⟨by omega, (hc _ _ _ _ al (by decide) (by decide) a.get).trans a.get, a.qv.frame hn fun c vs op h1 hg => hc c vs _ op h1 (by decide) (by decide) hg⟩
theorem bucketErr_w (H : Int) (bp : Nat) (h : Heap) (κ : Value → Heap → Prop) (hh : ¬ (1 ≤ H ∧ H ≤ 64)) (hk : κ (.tuple ⟨[.pointer none, .int .i64 2]⟩) h) : CallW Tryz.prog 45 [.int .i64 H, .pointer (some ⟨bp, 0, none⟩)] h κ := by
  refine callW_of mixed ?_
  rw [rs_45]
  by_cases h1 : H < 1
  · simp (disch := first | omega | (simp only [Wx]; done) | (simp only [Wy]; done) | (simp only [Wv]; omega) | with_unfolding_all rfl) only [Wz, ptrTo, sliceTo, dec_t h1]
    exact hk
  · simp (disch := first | omega | (simp only [Wx]; done) | (simp only [Wy]; done) | (simp only [Wv]; omega) | with_unfolding_all rfl) only [Wz, ptrTo, sliceTo, dec_f h1, lt_t (show (64 : Int) < H by omega)]
    exact hk
theorem poolErr_w (R : Int) (h : Heap) (κ : Value → Heap → Prop) (hh : 128 < R) (hk : κ (.tuple ⟨[.pointer none, .int .i64 2]⟩) h) : CallW Tryz.prog 44 [.int .i64 R] h κ := by
  refine callW_of mixed ?_
  rw [rs_44]
  simp (disch := first | omega | (simp only [Wx]; done) | (simp only [Wy]; done) | (simp only [Wv]; omega) | with_unfolding_all rfl) only [Wz, ptrTo, sliceTo, lt_f (show (0 : Int) ≤ R by omega), lt_t hh]
  exact hk
theorem fill_tb (S H R P : Int) (bp : Addr) (b : Nat) (κ : List Value → Prop) : fillB False [(6, 1)] [.map (some b)] [.int .i64 S, .int .i64 H, .int .i64 R, .int .i64 P, .pointer (some bp), .slice none 0 0, .map none] κ = κ [.int .i64 S, .int .i64 H, .int .i64 R, .int .i64 P, .pointer (some bp), .slice none 0 0, .map (some b)] := by kernel_rfl
theorem lent_rep (n : Nat) : lentL (List.replicate n false) = [] := by
  rw [List.eq_nil_iff_forall_not_mem]
  intro x hx
  obtain ⟨k, _, hn⟩ := mem_lent.1 hx
  rw [List.getElem?_replicate] at hn
  split at hn <;> simp at hn
def capsV (c : Caps) : Value := .agg ⟨[.int .i64 c.S, .int .i64 c.H, .int .i64 c.R, .int .i64 c.P]⟩
def CapsOk (c : Caps) : Prop := 1 ≤ c.S ∧ c.S ≤ 16 ∧ 0 ≤ c.P ∧ c.P ≤ 8 ∧ 1 ≤ c.R ∧ c.R ≤ 128 ∧ 1 ≤ c.H ∧ c.H ≤ 64
theorem tNewR_w (c : Caps) (h : Heap) (κ : Value → Heap → Prop) (hlo : h.lo ≤ h.nx)
    (hkE : ∀ h' (e : Int), e ≠ 0 → ¬ CapsOk c → κ (.tuple ⟨[.pointer none, .int .i64 e]⟩) h')
    (hkO : ∀ h' tb bw bp bl vb heads Ts F, TSt h' tb bw bp bl c vb heads 0 Ts [] 0 F (List.replicate c.R.toNat false) → (∀ b ∈ Ts, h.nx ≤ b.bm) → h.nx ≤ bw → h.nx ≤ bp → h.nx ≤ bl → Le h h' → (∀ x, FB h' bp x → h.nx ≤ x) → κ (.tuple ⟨[.pointer (some ⟨tb, 0, none⟩), .int .i64 0]⟩) h') :
    CallW Tryz.prog 10 [capsV c] h κ := by
  refine callW_of mixed ?_
  rw [rs_10]
  simp (disch := first | omega | (simp only [Wx]; done) | (simp only [Wy]; done) | (simp only [Wv]; omega) | with_unfolding_all rfl) only [Wz, ptrTo, sliceTo, capsV]
  obtain ⟨hA, e_hA⟩ : ∃ hA : Heap, hA = ⟨h.nx + 1, (h.bl.upd (h.nx) (cellsO [.int .i64 c.S, .int .i64 c.H, .int .i64 c.R, .int .i64 c.P] 29 false)), h.lo⟩ := ⟨_, rfl⟩
  have le_hA : Le h hA := by subst e_hA; exact ((Le.refl h).new _)
  have g1 : hA.bl.get (h.nx) = some (cellsO [.int .i64 c.S, .int .i64 c.H, .int .i64 c.R, .int .i64 c.P] 29 false) := by subst e_hA; exact T.get_upd_same _ _ _
  have n_hA : hA.nx = h.nx + 1 := by subst e_hA; rfl
  have l_hA : hA.lo = h.lo := by subst e_hA; rfl
  rw [← e_hA]
  clear e_hA
  by_cases hS1 : c.S < 1
  · simp (disch := first | omega | (simp only [Wx]; done) | (simp only [Wy]; done) | (simp only [Wv]; omega) | with_unfolding_all rfl) only [Wz, ptrTo, sliceTo, dec_t hS1]
    exact hkE _ 2 (by decide) (by unfold CapsOk; omega)
  by_cases hS2 : 16 < c.S
  · simp (disch := first | omega | (simp only [Wx]; done) | (simp only [Wy]; done) | (simp only [Wv]; omega) | with_unfolding_all rfl) only [Wz, ptrTo, sliceTo, dec_f hS1, g1, dec_t hS2]
    exact hkE _ 2 (by decide) (by unfold CapsOk; omega)
  by_cases hP1 : c.P < 0
  · simp (disch := first | omega | (simp only [Wx]; done) | (simp only [Wy]; done) | (simp only [Wv]; omega) | with_unfolding_all rfl) only [Wz, ptrTo, sliceTo, dec_f hS1, g1, dec_f hS2, dec_t hP1]
    exact hkE _ 2 (by decide) (by unfold CapsOk; omega)
  by_cases hP2 : 8 < c.P
  · simp (disch := first | omega | (simp only [Wx]; done) | (simp only [Wy]; done) | (simp only [Wv]; omega) | with_unfolding_all rfl) only [Wz, ptrTo, sliceTo, dec_f hS1, g1, dec_f hS2, dec_f hP1, dec_t hP2]
    exact hkE _ 2 (by decide) (by unfold CapsOk; omega)
  by_cases hR1 : c.R < 1
  · simp (disch := first | omega | (simp only [Wx]; done) | (simp only [Wy]; done) | (simp only [Wv]; omega) | with_unfolding_all rfl) only [Wz, ptrTo, sliceTo, dec_f hS1, g1, dec_f hS2, dec_f hP1, dec_f hP2, dec_t hR1]
    exact hkE _ 2 (by decide) (by unfold CapsOk; omega)
  simp (disch := first | omega | (simp only [Wx]; done) | (simp only [Wy]; done) | (simp only [Wv]; omega) | with_unfolding_all rfl) only [Wz, ptrTo, sliceTo, dec_f hS1, g1, dec_f hS2, dec_f hP1, dec_f hP2, dec_f hR1, rs_10_3]
  by_cases hR2 : 128 < c.R
  · refine poolErr_w c.R hA _ hR2 ?_
    simp (disch := first | omega | (simp only [Wx]; done) | (simp only [Wy]; done) | (simp only [Wv]; omega) | with_unfolding_all rfl) only [Wz, ptrTo, sliceTo]
    exact hkE _ 2 (by decide) (by unfold CapsOk; omega)
  obtain ⟨R, eR⟩ : ∃ R : Nat, c.R = (R : Int) := ⟨c.R.toNat, by omega⟩
  rw [eR]
  refine newPool_w R hA _ (by omega) (by omega) ?_
  intro bp bl h2 F p hne h2p h2l hF fr2 hfb2
  have n2 := fr2.nx
  have l2 := fr2.lo
  have hbpl := p.fr.lt
  have hbll := p.lt
  have g12 := (fr2.get h.nx (by omega)).trans g1
  rw [eR] at g12
  simp (disch := first | omega | (simp only [Wx]; done) | (simp only [Wy]; done) | (simp only [Wv]; omega) | with_unfolding_all rfl) only [Wz, ptrTo, sliceTo, rs_10_2, g12, fill_tb, mapTo]
  obtain ⟨hB, e_hB⟩ : ∃ hB : Heap, hB = ⟨h2.nx + 1 + 1, ((h2.bl.upd (h2.nx) (.map [] 0)).upd (h2.nx + 1) (cellsO [.int .i64 c.S, .int .i64 c.H, .int .i64 (R : Int), .int .i64 c.P, .pointer (some ⟨bp, 0, none⟩), .slice none 0 0, .map (some h2.nx)] 88 false)), h2.lo⟩ := ⟨_, rfl⟩
  have le_hB : Le h2 hB := by subst e_hB; exact (((Le.refl h2).new _).new _)
  have gw : hB.bl.get (h2.nx) = some (.map [] 0) := by subst e_hB; exact (T.get_updne _ _ (by omega)).trans (T.get_upd_same _ _ _)
  have gt : hB.bl.get (h2.nx + 1) = some (cellsO [.int .i64 c.S, .int .i64 c.H, .int .i64 (R : Int), .int .i64 c.P, .pointer (some ⟨bp, 0, none⟩), .slice none 0 0, .map (some h2.nx)] 88 false) := by subst e_hB; exact T.get_upd_same _ _ _
  have n_hB : hB.nx = h2.nx + 1 + 1 := by subst e_hB; rfl
  have l_hB : hB.lo = h2.lo := by subst e_hB; rfl
  rw [← e_hB]
  clear e_hB
  have n_le_hB := le_hB.nx
  have l_le_hB := le_hB.lo
  have g12 := (le_hB.get _ (by omega)).trans g12
  by_cases hH : 1 ≤ c.H ∧ c.H ≤ 64
  case neg =>
    refine ⟨fun n l h1 => slot l 26 = .int .i64 0 ∧ HQ hB h1, ⟨0, rfl, rfl⟩, ?_⟩
    rintro n l h1 ⟨s1, hq⟩
    cases (show hB = h1 from hq)
    simp (disch := first | omega | (simp only [Wx]; done) | (simp only [Wy]; done) | (simp only [Wv]; omega) | with_unfolding_all rfl) only [Wz, ptrTo, sliceTo, s1, lt_t (show (0 : Int) < c.S by omega), rs_10_1, g12]
    refine bucketErr_w c.H bp hB _ hH ?_
    simp (disch := first | omega | (simp only [Wx]; done) | (simp only [Wy]; done) | (simp only [Wv]; omega) | with_unfolding_all rfl) only [Wz, ptrTo, sliceTo]
    exact hkE _ 2 (by decide) (by unfold CapsOk; omega)
  obtain ⟨heads, eH⟩ : ∃ n : Nat, c.H = (n : Int) := ⟨c.H.toNat, by omega⟩
  obtain ⟨S, eS⟩ : ∃ n : Nat, c.S = (n : Int) := ⟨c.S.toNat, by omega⟩
  refine ⟨fun n l h1 => ∃ (i : Nat) (Ts : List TB) (v : Value), slot l 26 = .int .i64 (i : Int) ∧ n = S - i ∧ i ≤ S ∧ Ts.length = i ∧ h1.bl.get (h2.nx + 1) = some (cellsO [.int .i64 c.S, .int .i64 c.H, .int .i64 (R : Int), .int .i64 c.P, .pointer (some ⟨bp, 0, none⟩), v, .map (some h2.nx)] 88 false) ∧
      h1.bl.get h2.nx = some (.map [] 0) ∧ Own encTB h2 89 h1 v Ts ∧ PoolIs h1 bp bl F (List.replicate R false) ∧ (∀ b ∈ Ts, BucketIs h1 b.bb b.bm bp bl heads [] 0 F (List.replicate R false) ∧ b.M = [] ∧ b.clock = 0 ∧ hB.nx ≤ b.bm) ∧ Ts.Pairwise (fun a b => a.bm ≠ b.bm) ∧ Le h2 h1 ∧ hB.nx ≤ h1.nx,
    ⟨_, 0, [], _, rfl, rfl, by omega, rfl, gt, gw, .inl ⟨rfl, .inl rfl⟩, p.le le_hB, fun b hb => (nomatch hb), List.Pairwise.nil, le_hB, Nat.le_refl _⟩, ?_⟩
  rintro n l h1 ⟨i, Ts, v, s1, rfl, hi, hTl, gt1, gw1, ho, p1, hbk, hds, le1, nB⟩
  have n1 := le1.nx
  have l1 := le1.lo
  by_cases hlt : i < S
  · have g121 := (le1.get h.nx (by omega)).trans ((fr2.get h.nx (by omega)).trans g1)
    simp (disch := first | omega | (simp only [Wx]; done) | (simp only [Wy]; done) | (simp only [Wv]; omega) | with_unfolding_all rfl) only [Wz, ptrTo, sliceTo, s1, lt_t (show (i : Int) < c.S by omega), rs_10_1, g121, eH]
    refine bucketNew_w heads bp h1 _ (by omega) (by omega) ?_
    intro h3 le3 nx3 gm3 gb3
    have n3 := le3.nx
    have l3 := le3.lo
    have gt3 := (le3.get _ (by omega)).trans gt1
    obtain ⟨vx, vc, ev, _⟩ := (show Sl encTB h1 v Ts from ho.sl)
    simp (disch := first | omega | (simp only [Wx]; done) | (simp only [Wy]; done) | (simp only [Wv]; omega) | with_unfolding_all rfl) only [Wz, ptrTo, sliceTo, rs_10_0, nil_at, gt3]
    obtain ⟨h4, e4⟩ : ∃ h4 : Heap, h4 = ⟨h3.nx + 1, h3.bl.upd h3.nx (cellsO [.pointer (some ⟨h1.nx + 1, 0, none⟩)] 89 false), h3.lo⟩ := ⟨_, rfl⟩
    have le4 : Le h3 h4 := by rw [e4]; exact (Le.refl h3).new _
    have g4 : h4.bl.get h3.nx = some (cellsO ([(⟨h1.nx + 1, h1.nx, [], 0⟩ : TB)].flatMap encTB) 89 false) := by rw [e4]; exact T.get_upd_same _ _ _
    have nx4 : h4.nx = h3.nx + 1 := by rw [e4]
    have l4 : h4.lo = h3.lo := by rw [e4]
    try rw [← e4]
    clear e4
    have le14 := le3.trans le4
    have gt4 := (le4.get _ (by omega)).trans gt3
    refine append_in (enc := encTB) (a := h2) (L := Ts) (M := [(⟨h1.nx + 1, h1.nx, [], 0⟩ : TB)]) encTB_len encTB_one (by decide) (by decide) (ho.le le14) (Sl.new (by omega) g4 _) (le1.trans le14) (by simp; omega) (by omega) _ ?_
    intro v5 h5 ho5 le5 nx5 nx5' l5 same5
    have gt5 := (same5 (h2.nx + 1) (by omega) (by rw [gt4]; exact cells_op)).trans gt4
    obtain ⟨vx5, vc5, ev5, _⟩ := (show Sl encTB h5 v5 _ from ho5.sl)
    subst ev5
    simp (disch := first | omega | (simp only [Wx]; done) | (simp only [Wy]; done) | (simp only [Wv]; omega) | with_unfolding_all rfl) only [Wz, ptrTo, sliceTo, nil_at, gt5]
    have fr5 : ∀ c vs ty op, c < h4.nx → ty ≠ 89 → h4.bl.get c = some (cellsO vs ty op) → h5.bl.get c = h4.bl.get c := fun c vs ty op hc hty hg => same5 c hc (by rw [hg]; exact cells_ty hty)
    have fm5 : ∀ c es cl, c < h4.nx → h4.bl.get c = some (.map es cl) → h5.bl.get c = h4.bl.get c := fun c es cl hc hg => same5 c hc (by rw [hg]; exact cells_map)
    obtain ⟨h6, e6⟩ : ∃ h6 : Heap, h6 = ⟨h5.nx, h5.bl.upd (h2.nx + 1) (cellsO [.int .i64 c.S, .int .i64 c.H, .int .i64 (R : Int), .int .i64 c.P, .pointer (some ⟨bp, 0, none⟩), .slice vx5 (Ts ++ [(⟨h1.nx + 1, h1.nx, [], 0⟩ : TB)]).length vc5, .map (some h2.nx)] 88 false), h5.lo⟩ := ⟨_, rfl⟩
    have gt6 : h6.bl.get (h2.nx + 1) = some (cellsO [.int .i64 c.S, .int .i64 c.H, .int .i64 (R : Int), .int .i64 c.P, .pointer (some ⟨bp, 0, none⟩), .slice vx5 (Ts ++ [(⟨h1.nx + 1, h1.nx, [], 0⟩ : TB)]).length vc5, .map (some h2.nx)] 88 false) := by rw [e6]; exact T.get_upd_same _ _ _
    have get6 : ∀ d, d ≠ h2.nx + 1 → h6.bl.get d = h5.bl.get d := fun d hd => by rw [e6]; exact T.get_updne _ _ (fun e => hd e.symm)
    have ho6 : Own encTB h2 89 h6 (.slice vx5 (Ts ++ [(⟨h1.nx + 1, h1.nx, [], 0⟩ : TB)]).length vc5) (Ts ++ [(⟨h1.nx + 1, h1.nx, [], 0⟩ : TB)]) := by rw [e6]; exact Own.put ho5 (by rw [gt5]; exact cells_op) _
    have le6 : Le h2 h6 := by rw [e6]; exact le5.set (b := h2.nx + 1) (by omega) _
    have nx6 : h6.nx = h5.nx := by rw [e6]
    have l6 : h6.lo = h5.lo := by rw [e6]
    rw [← e6]
    clear e6
    have hc6 : ∀ d vs ty op, d < h4.nx → ty ≠ 89 → ty ≠ 88 → h4.bl.get d = some (cellsO vs ty op) → h6.bl.get d = h4.bl.get d := by
      intro d vs ty op hd h1 h2' hg
      refine (get6 d ?_).trans (fr5 d vs ty op hd h1 hg)
      rintro rfl
      rw [hg] at gt4
      exact cells_ty h2' gt4
    have hm6 : ∀ d es cl, d < h4.nx → h4.bl.get d = some (.map es cl) → h6.bl.get d = h4.bl.get d := by
      intro d es cl hd hg
      refine (get6 d ?_).trans (fm5 d es cl hd hg)
      rintro rfl
      rw [hg] at gt4
      exact cells_map gt4
    have gw4 := (le14.get h2.nx (by omega)).trans gw1
    have p4 := p1.le le14
    have p6 := p4.frame2 (by omega) (by omega) hc6
    have isN : BucketIs h4 (h1.nx + 1) h1.nx bp bl heads [] 0 F (List.replicate R false) := ⟨by omega, by omega, by omega, (le4.get _ (by omega)).trans gb3, (le4.get _ (by omega)).trans gm3, ⟨List.Pairwise.nil, List.Pairwise.nil, fun e he => (nomatch he)⟩, fun e he => (nomatch he), fun e he => (nomatch he), p4, hne⟩
    have hlast : ∀ b ∈ Ts, b.bm < h1.nx := fun b hb => (hbk b hb).1.ltm
    simp (disch := first | omega | (simp only [Wx]; done) | (simp only [Wy]; done) | (simp only [Wv]; omega) | with_unfolding_all rfl) only [Wz, ptrTo, sliceTo, s1]
    refine ⟨_, by omega, i + 1, Ts ++ [⟨h1.nx + 1, h1.nx, [], 0⟩], .slice vx5 (Ts ++ [(⟨h1.nx + 1, h1.nx, [], 0⟩ : TB)]).length vc5, rfl, rfl, by omega, by simp; omega, by rw [← eH]; exact gt6, (hm6 _ _ _ (by omega) gw4).trans gw4, ho6, p6, ?_, ?_, le6, by omega⟩
    · intro b hb
      rcases List.mem_append.1 hb with hb | hb
      · obtain ⟨k1, k2, k3, k4⟩ := hbk b hb
        have k5 := k1.le le14
        exact ⟨k5.frame2 (by omega) (by omega) hc6 (hm6 _ _ _ k5.ltm k5.cellm), k2, k3, k4⟩
      · rw [List.mem_singleton] at hb; subst hb
        exact ⟨isN.frame2 (by omega) (by omega) hc6 (hm6 _ _ _ isN.ltm isN.cellm), rfl, rfl, nB⟩
    · exact pw_snoc hds fun q hq => Nat.ne_of_lt (hlast q hq)
  · have hiS : i = S := by omega
    simp (disch := first | omega | (simp only [Wx]; done) | (simp only [Wy]; done) | (simp only [Wv]; omega) | with_unfolding_all rfl) only [Wz, ptrTo, sliceTo, s1, lt_f (show c.S ≤ (i : Int) by omega)]
    have hnil : ∀ b ∈ Ts, b.M = [] := fun b hb => (hbk b hb).2.1
    have hM : ∀ (k : Nat) (b : TB), Ts[k]? = some b → b.M = [] := fun k b hb => hnil b (List.mem_of_getElem? hb)
    have hids : (Ts.flatMap fun b => idsM b.M) = [] := by
      rw [List.flatMap_eq_nil_iff]
      intro b hb
      rw [hnil b hb]; rfl
    have eRn : c.R.toNat = R := by omega
    refine hkO h1 (h2.nx + 1) h2.nx bp bl v heads Ts F ⟨⟨by omega, by rw [eR]; exact gt1, ho.sl, TyS.own ho, by omega, by omega, gw1, fun b hb => ?_, hds, fun b hb => ?_, by rw [eRn]; exact p1, by omega, by omega, by omega⟩, ?_, ?_, ?_, ?_, ?_, ?_, by omega⟩ (fun b hb => ?_) (by omega) (by omega) (by omega) ?_ ?_
    · obtain ⟨k1, k2, k3, k4⟩ := hbk b hb
      rw [k2, k3, eRn]; exact k1
    · have := (hbk b hb).2.2.2; omega
    · rw [hids, lent_rep]
    · intro k b hk e he; rw [hM k b hk] at he; nomatch he
    · intro k b hk e he; rw [hM k b hk] at he; nomatch he
    · intro b hb e he; rw [hnil b hb] at he; nomatch he
    · intro b hb; rw [hnil b hb]; exact Nat.zero_le _
    · rw [List.length_replicate]; omega
    · have := (hbk b hb).2.2.2; omega
    · exact le_hA.trans (fr2.trans le1)
    · intro x hx
      have := hfb2 x ((FB.congr (le1.get bp p.fr.lt)).1 hx)
      omega
theorem tNew_w (c : Caps) (h : Heap) (κ : Value → Heap → Prop) (hlo : h.lo ≤ h.nx)
    (hkE : ∀ h' (e : Int), e ≠ 0 → κ (.tuple ⟨[.pointer none, .int .i64 e]⟩) h')
    (hkO : ∀ h' tb bw bp bl vb heads Ts F, TSt h' tb bw bp bl c vb heads 0 Ts [] 0 F (List.replicate c.R.toNat false) → (∀ b ∈ Ts, h.nx ≤ b.bm) → h.nx ≤ bw → h.nx ≤ bp → h.nx ≤ bl → FrT Ts bw bp bl h h' → κ (.tuple ⟨[.pointer (some ⟨tb, 0, none⟩), .int .i64 0]⟩) h') :
    CallW Tryz.prog 10 [capsV c] h κ :=
  tNewR_w c h κ hlo (fun h' e he _ => hkE h' e he) fun h' tb bw bp bl vb heads Ts F s a1 a2 a3 a4 l _ => hkO h' tb bw bp bl vb heads Ts F s a1 a2 a3 a4 (FrT.of_le l)
end Go.Proofs
