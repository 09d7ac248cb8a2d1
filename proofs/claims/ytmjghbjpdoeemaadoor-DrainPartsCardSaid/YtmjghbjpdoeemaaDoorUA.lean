/-
  PROVED HERE: a part of the proof, by a calculus of weakest conditions over an abstract heap (U1, U2).
-/
import Derived.Test.YtmjghbjpdoeemaaDoorKA
import Derived.Test.YtmjghbjpdoeemaaDoorV6
set_option linter.unusedVariables false
set_option linter.unusedSimpArgs false
set_option maxRecDepth 100000
namespace Go.Proofs
open Go.Vai Go.Clashes
def inN (n : Int) : Bool := decide (0 ≤ n) && decide (n < 100)
theorem within_w (n : Int) {h : Heap} {κ : Value → Heap → Prop} (hk : κ (.bool (inN n)) h) : CallW Tryd.prog 31 [.int .i64 n] h κ := by
  refine pureW (v := .bool (inN n)) rfl rfl (callW_of mixed ?_) hk
  rw [rs_31]
  by_cases h1 : n < 0
  · simp(disch:=first|omega|(simp only[Wx];done)|(simp only[Wy];done)|(simp only[Wv];omega)|with_unfolding_all rfl)only[Wz,ptrTo,sliceTo, lt_t h1]; simp [inN]; omega
  · by_cases h2 : n < 100
    · simp(disch:=first|omega|(simp only[Wx];done)|(simp only[Wy];done)|(simp only[Wv];omega)|with_unfolding_all rfl)only[Wz,ptrTo,sliceTo, lt_f (show 0 ≤ n by omega), lt_t h2]; simp [inN]; omega
    · simp(disch:=first|omega|(simp only[Wx];done)|(simp only[Wy];done)|(simp only[Wv];omega)|with_unfolding_all rfl)only[Wz,ptrTo,sliceTo, lt_f (show 0 ≤ n by omega), lt_f (show 100 ≤ n by omega)]; simp [inN]; omega
theorem database_w (h : Heap) (κ : Value → Heap → Prop) (hlo : h.lo ≤ h.nx) (hk : ∀ h', Le h h' → κ (nmV (-1) (-1)) h') : CallW Tryd.prog 30 [] h κ := by
  refine callW_of mixed ?_
  rw [rs_30]
  simp(disch:=first|omega|(simp only[Wx];done)|(simp only[Wy];done)|(simp only[Wv];omega)|with_unfolding_all rfl)only[Wz,ptrTo,sliceTo]
  exact hk _ ((Le.refl h).new _)
def levelN (t r : Int) : Int := if t = -1 ∧ r = -1 then 0 else if inN t = true ∧ r = -1 then 1 else if inN t = true ∧ inN r = true then 2 else -1
theorem level0_w (t r : Int) (h : Heap) (κ : Value → Heap → Prop) (hlo : h.lo ≤ h.nx) (hk : ∀ h', Le h h' → κ (.int .i64 (levelN t r)) h') : CallW Tryd.prog 24 [nmV t r] h κ := by
  refine callW_of mixed ?_
  rw [rs_24]
  simp(disch:=first|omega|(simp only[Wx];done)|(simp only[Wy];done)|(simp only[Wv];omega)|with_unfolding_all rfl)only[Wz,ptrTo,sliceTo, nmV]
  obtain ⟨hA, e_hA⟩ : ∃ hA : Heap, hA = ⟨h.nx + 1, (h.bl.upd (h.nx) (cellsO [.int .i64 t, .int .i64 r] 30 false)), h.lo⟩ := ⟨_, rfl⟩
  have le_hA : Le h hA := by subst e_hA; exact ((Le.refl h).new _)
  have g1 : hA.bl.get (h.nx) = some (cellsO [.int .i64 t, .int .i64 r] 30 false) := by subst e_hA; exact T.get_upd_same _ _ _
  have n_hA : hA.nx = h.nx + 1 := by subst e_hA; rfl
  have l_hA : hA.lo = h.lo := by subst e_hA; rfl
  rw [← e_hA]
  clear e_hA
  refine database_w hA _ (by omega) ?_
  intro h2 le2
  have n_le2 := le2.nx
  have l_le2 := le2.lo
  have g1 := (le2.get _ (by omega)).trans g1
  have hk := hk h2 (le_hA.trans le2)
  simp(disch:=first|omega|(simp only[Wx];done)|(simp only[Wy];done)|(simp only[Wv];omega)|with_unfolding_all rfl)only[Wz,ptrTo,sliceTo, nmV, g1, veq_int, bin_eqN]
  by_cases h0 : t = -1 ∧ r = -1
  · simp(disch:=first|omega|(simp only[Wx];done)|(simp only[Wy];done)|(simp only[Wv];omega)|with_unfolding_all rfl)only[Wz,ptrTo,sliceTo, dec_t h0]
    have e : levelN t r = 0 := by simp [levelN, h0]
    rw [e] at hk; exact hk
  · simp(disch:=first|omega|(simp only[Wx];done)|(simp only[Wy];done)|(simp only[Wv];omega)|with_unfolding_all rfl)only[Wz,ptrTo,sliceTo, dec_f h0, rs_24_1, g1]
    refine within_w t ?_
    cases ht : inN t with
    | false =>
      simp(disch:=first|omega|(simp only[Wx];done)|(simp only[Wy];done)|(simp only[Wv];omega)|with_unfolding_all rfl)only[Wz,ptrTo,sliceTo, rs_24_0, g1]
      refine within_w t ?_
      rw [ht]
      have e : levelN t r = -1 := by unfold levelN; rw [if_neg h0, ht]; simp
      rw [e] at hk
      simp(disch:=first|omega|(simp only[Wx];done)|(simp only[Wy];done)|(simp only[Wv];omega)|with_unfolding_all rfl)only[Wz,ptrTo,sliceTo]
      exact hk
    | true =>
      by_cases hr : r = -1
      · simp(disch:=first|omega|(simp only[Wx];done)|(simp only[Wy];done)|(simp only[Wv];omega)|with_unfolding_all rfl)only[Wz,ptrTo,sliceTo, dec_t hr, g1]
        have e : levelN t r = 1 := by unfold levelN; rw [if_neg h0, ht, hr]; simp
        rw [e] at hk; exact hk
      · simp(disch:=first|omega|(simp only[Wx];done)|(simp only[Wy];done)|(simp only[Wv];omega)|with_unfolding_all rfl)only[Wz,ptrTo,sliceTo, dec_f hr, rs_24_0, g1]
        refine within_w t ?_
        rw [ht]
        simp(disch:=first|omega|(simp only[Wx];done)|(simp only[Wy];done)|(simp only[Wv];omega)|with_unfolding_all rfl)only[Wz,ptrTo,sliceTo, g1]
        refine within_w r ?_
        cases hr2 : inN r with
        | false =>
          have e : levelN t r = -1 := by unfold levelN; rw [if_neg h0, ht, hr2]; simp [hr]
          rw [e] at hk
          simp(disch:=first|omega|(simp only[Wx];done)|(simp only[Wy];done)|(simp only[Wv];omega)|with_unfolding_all rfl)only[Wz,ptrTo,sliceTo]
          exact hk
        | true =>
          have e : levelN t r = 2 := by unfold levelN; rw [if_neg h0, ht, hr2]; simp [hr]
          rw [e] at hk
          simp(disch:=first|omega|(simp only[Wx];done)|(simp only[Wy];done)|(simp only[Wv];omega)|with_unfolding_all rfl)only[Wz,ptrTo,sliceTo]
          exact hk
theorem level_w (t r : Int) {h : Heap} {κ : Value → Heap → Prop} (hk : κ (.int .i64 (levelN t r)) h) : CallW Tryd.prog 24 [nmV t r] h κ :=
  pureW (v := .int .i64 (levelN t r)) rfl rfl (level0_w t r heap0 _ (Nat.le_refl _) fun _ _ => rfl) hk
theorem checkN_w (t r : Int) {h : Heap} {κ : Value → Heap → Prop} (hk : κ (.int .i64 (if levelN t r = -1 then 2 else 0)) h) : CallW Tryd.prog 26 [nmV t r] h κ := by
  refine pureW (v := .int .i64 (if levelN t r = -1 then 2 else 0)) rfl rfl (callW_of mixed ?_) hk
  rw [rs_26]
  simp(disch:=first|omega|(simp only[Wx];done)|(simp only[Wy];done)|(simp only[Wv];omega)|with_unfolding_all rfl)only[Wz,ptrTo,sliceTo, nmV]
  refine level_w t r ?_
  by_cases h : levelN t r = -1
  · simp(disch:=first|omega|(simp only[Wx];done)|(simp only[Wy];done)|(simp only[Wv];omega)|with_unfolding_all rfl)only[Wz,ptrTo,sliceTo, dec_t h]; simp [h]
  · simp(disch:=first|omega|(simp only[Wx];done)|(simp only[Wy];done)|(simp only[Wv];omega)|with_unfolding_all rfl)only[Wz,ptrTo,sliceTo, dec_f h]; simp [h]
def itoaS (n : Nat) : ByteArray := if n < 10 then ⟨#[UInt8.ofNat (48 + n)]⟩ else ⟨#[UInt8.ofNat (48 + n / 10), UInt8.ofNat (48 + n % 10)]⟩
theorem itoa_a : ∀ n, n < 100 → answersS Tryd.prog 60 36 [.int .i64 (n : Nat)] (.string (itoaS n)) = true := by
  intro n hn
  have : (List.range 100).all (fun n => answersS Tryd.prog 60 36 [.int .i64 ((n : Nat) : Int)] (.string (itoaS n))) = true := by kernel_rfl
  exact List.all_eq_true.1 this n (List.mem_range.2 hn)
theorem itoa_w (n : Int) (hn : inN n = true) {h : Heap} {κ : Value → Heap → Prop} (hk : κ (.string (itoaS n.toNat)) h) : CallW Tryd.prog 36 [.int .i64 n] h κ := by
  have h1 : 0 ≤ n ∧ n < 100 := by simpa [inN] using hn
  obtain ⟨k, rfl⟩ : ∃ k : Nat, n = (k : Int) := ⟨n.toNat, by omega⟩
  rw [Int.toNat_natCast] at hk
  exact closedW mixed (itoa_a k (by omega)) hk
def textN (t r : Int) : ByteArray := if levelN t r = 0 then ⟨#[100, 98]⟩ else if levelN t r = 1 then (⟨#[116]⟩ : ByteArray) ++ itoaS t.toNat else (⟨#[116]⟩ : ByteArray) ++ itoaS t.toNat ++ (⟨#[46, 114]⟩ : ByteArray) ++ itoaS r.toNat
theorem itoa_size (n : Nat) : (itoaS n).size ≤ 2 := by
  unfold itoaS
  split <;> simp [ByteArray.size]
theorem level_cases {t r : Int} (h : levelN t r ≠ -1) : levelN t r = 0 ∨ (levelN t r = 1 ∧ inN t = true) ∨ (levelN t r = 2 ∧ inN t = true ∧ inN r = true) := by
  unfold levelN at *
  split
  · exact .inl rfl
  · split
    · rename_i h1; exact .inr (.inl ⟨rfl, h1.1⟩)
    · split
      · rename_i h1; exact .inr (.inr ⟨rfl, h1⟩)
      · rename_i h1 h2 h3; rw [if_neg h1, if_neg h2, if_neg h3] at h; exact absurd rfl h
theorem text_w (t r : Int) (hl : levelN t r ≠ -1) {h : Heap} {κ : Value → Heap → Prop} (hk : κ (.string (textN t r)) h) : CallW Tryd.prog 33 [nmV t r] h κ := by
  refine pureW (v := .string (textN t r)) rfl rfl (callW_of mixed ?_) hk
  rw [rs_33]
  simp(disch:=first|omega|(simp only[Wx];done)|(simp only[Wy];done)|(simp only[Wv];omega)|with_unfolding_all rfl)only[Wz,ptrTo,sliceTo, nmV]
  refine level_w t r ?_
  have st := itoa_size t.toNat
  have sr := itoa_size r.toNat
  rcases level_cases hl with e | ⟨e, ht⟩ | ⟨e, ht, hr⟩
  · rw [e]; simp(disch:=first|omega|(simp only[Wx];done)|(simp only[Wy];done)|(simp only[Wv];omega)|with_unfolding_all rfl)only[Wz,ptrTo,sliceTo]; simp [textN, e]
  · rw [e]
    simp(disch:=first|omega|(simp only[Wx];done)|(simp only[Wy];done)|(simp only[Wv];omega)|with_unfolding_all rfl)only[Wz,ptrTo,sliceTo, rs_33_1]
    refine itoa_w t ht ?_
    rw [bin_str _ _ _ _ _ _ _ _ (by show 1 + _ ≤ _; omega)]
    simp [textN, e]
  · rw [e]
    simp(disch:=first|omega|(simp only[Wx];done)|(simp only[Wy];done)|(simp only[Wv];omega)|with_unfolding_all rfl)only[Wz,ptrTo,sliceTo, rs_33_1, rs_33_0]
    have e1 : ∀ (β : Type) (fl : β) (cn gd : Bool) (h : Heap) (κ : Value → Heap → β), binB fl Tryd.prog .add 9 cn gd (.string ⟨#[116]⟩) (.string (itoaS t.toNat)) h κ = κ (.string ((⟨#[116]⟩ : ByteArray) ++ itoaS t.toNat)) h := fun β fl cn gd h κ => bin_str _ _ _ _ _ _ _ _ (by show 1 + _ ≤ _; omega)
    have e2 : ∀ (β : Type) (fl : β) (cn gd : Bool) (h : Heap) (κ : Value → Heap → β), binB fl Tryd.prog .add 9 cn gd (.string ((⟨#[116]⟩ : ByteArray) ++ itoaS t.toNat)) (.string ⟨#[46, 114]⟩) h κ = κ (.string ((⟨#[116]⟩ : ByteArray) ++ itoaS t.toNat ++ (⟨#[46, 114]⟩ : ByteArray))) h := fun β fl cn gd h κ => bin_str _ _ _ _ _ _ _ _ (by rw [ByteArray.size_append]; show 1 + _ + 2 ≤ _; omega)
    have e3 : ∀ (β : Type) (fl : β) (cn gd : Bool) (h : Heap) (κ : Value → Heap → β), binB fl Tryd.prog .add 9 cn gd (.string ((⟨#[116]⟩ : ByteArray) ++ itoaS t.toNat ++ (⟨#[46, 114]⟩ : ByteArray))) (.string (itoaS r.toNat)) h κ = κ (.string ((⟨#[116]⟩ : ByteArray) ++ itoaS t.toNat ++ (⟨#[46, 114]⟩ : ByteArray) ++ itoaS r.toNat)) h := fun β fl cn gd h κ => bin_str _ _ _ _ _ _ _ _ (by rw [ByteArray.size_append, ByteArray.size_append]; show 1 + _ + 2 + _ ≤ _; omega)
    refine itoa_w t ht ?_
    simp(disch:=first|omega|(simp only[Wx];done)|(simp only[Wy];done)|(simp only[Wv];omega)|with_unfolding_all rfl)only[Wz,ptrTo,sliceTo, e1, e2]
    refine itoa_w r hr ?_
    simp(disch:=first|omega|(simp only[Wx];done)|(simp only[Wy];done)|(simp only[Wv];omega)|with_unfolding_all rfl)only[Wz,ptrTo,sliceTo, e1, e2, e3, veq_str]
    simp [textN, e]
def stepB (a : Int) (b : UInt8) : Int := IntKind.u32.wrap (IntKind.u32.wrap ((BitVec.ofInt IntKind.u32.bits a ^^^ BitVec.ofInt IntKind.u32.bits (IntKind.u32.wrap (Int.ofNat b.toNat))).toNat) * 16777619)
def sumB (s : ByteArray) : Int := s.data.toList.foldl stepB 2166136261
theorem stepB_range (a : Int) (b : UInt8) : 0 ≤ stepB a b ∧ stepB a b < 4294967296 := wrap32_range _
theorem sumB_range (s : ByteArray) : 0 ≤ sumB s ∧ sumB s < 4294967296 := by
  unfold sumB
  have : ∀ (l : List UInt8) (a : Int), (0 ≤ a ∧ a < 4294967296) → 0 ≤ l.foldl stepB a ∧ l.foldl stepB a < 4294967296 := by
    intro l
    induction l with
    | nil => exact fun a h => h
    | cons b l ih => exact fun a _ => ih _ (stepB_range a b)
  exact this _ _ (by decide)
theorem sum_w (s : ByteArray) (hs : s.data.toList.length ≤ 1000) {h : Heap} {κ : Value → Heap → Prop} (hk : κ (.int .u32 (sumB s)) h) : CallW Tryd.prog 32 [.string s] h κ := by
  refine pureW (v := .int .u32 (sumB s)) rfl rfl (callW_of mixed ?_) hk
  rw [rs_32]
  rw [strBytes_eq _ _ _ _ (by omega)]
  simp(disch:=first|omega|(simp only[Wx];done)|(simp only[Wy];done)|(simp only[Wv];omega)|with_unfolding_all rfl)only[Wz,ptrTo,sliceTo]
  refine ⟨fun n l h1 => ∃ i : Nat, slot l 12 = .int .i64 (i : Int) ∧ slot l 10 = .int .u32 ((s.data.toList.take i).foldl stepB 2166136261) ∧ i ≤ s.data.toList.length ∧ n = s.data.toList.length - i ∧ HQ ⟨heap0.nx + 1, heap0.bl.upd heap0.nx (roO (bytesV s) 5), heap0.lo⟩ h1, ⟨_, 0, rfl, rfl, Nat.zero_le _, rfl, rfl⟩, ?_⟩
  rintro n l h1 ⟨i, s1, s2, hi, rfl, hq⟩
  cases (show _ = h1 from hq)
  by_cases hlt : i < s.data.toList.length
  · have hg := bytesV_get hlt
    simp(disch:=first|omega|(simp only[Wx];done)|(simp only[Wy];done)|(simp only[Wv];omega)|with_unfolding_all rfl)only[Wz,ptrTo,sliceTo, s1, lt_t (show (i : Int) < (s.data.toList.length : Int) by omega), rs_32_0, indexAddr_eq, Nat.mul_one, hg, s2, conv_u32, bin_xor32, bin_mul32]
    refine ⟨_, by omega, i + 1, rfl, ?_, by omega, rfl, rfl⟩
    rw [List.take_add_one, List.getElem?_eq_getElem hlt]
    simp only [Option.toList_some, List.foldl_append, List.foldl_cons, List.foldl_nil]
    rfl
  · have hil : i = s.data.toList.length := by omega
    simp(disch:=first|omega|(simp only[Wx];done)|(simp only[Wy];done)|(simp only[Wv];omega)|with_unfolding_all rfl)only[Wz,ptrTo,sliceTo, s1, lt_f (show (s.data.toList.length : Int) ≤ (i : Int) by omega), s2]
    rw [hil, List.take_length]; rfl
theorem text_len (t r : Int) : (textN t r).data.toList.length ≤ 1000 := by
  have st := itoa_size t.toNat
  have sr := itoa_size r.toNat
  have : (textN t r).size ≤ 1000 := by
    unfold textN
    split
    · decide
    · split
      · rw [ByteArray.size_append]; show 1 + _ ≤ _; omega
      · rw [ByteArray.size_append, ByteArray.size_append, ByteArray.size_append]; show 1 + _ + 2 + _ ≤ _; omega
  exact this
theorem hash_w (t r : Int) (hl : levelN t r ≠ -1) {h : Heap} {κ : Value → Heap → Prop} (hk : κ (.int .u32 (sumB (textN t r))) h) : CallW Tryd.prog 27 [nmV t r] h κ := by
  refine pureW (v := .int .u32 (sumB (textN t r))) rfl rfl (callW_of mixed ?_) hk
  rw [rs_27]
  simp(disch:=first|omega|(simp only[Wx];done)|(simp only[Wy];done)|(simp only[Wv];omega)|with_unfolding_all rfl)only[Wz,ptrTo,sliceTo, nmV]
  refine text_w t r hl ?_
  refine sum_w _ (text_len t r) ?_
  rfl
def strN (t r s : Int) : Int := if s < 1 ∨ 16 < s ∨ levelN t r = -1 then -1 else Int.tmod (sumB (textN t r)) s
theorem may_w (s : Int) {h : Heap} {κ : Value → Heap → Prop} (hk : κ (.bool (decide (1 ≤ s) && decide (s ≤ 16))) h) : CallW Tryd.prog 25 [.int .i64 s] h κ := by
  refine pureW (v := .bool (decide (1 ≤ s) && decide (s ≤ 16))) rfl rfl (callW_of mixed ?_) hk
  rw [rs_25]
  by_cases h1 : s < 1
  · simp(disch:=first|omega|(simp only[Wx];done)|(simp only[Wy];done)|(simp only[Wv];omega)|with_unfolding_all rfl)only[Wz,ptrTo,sliceTo, lt_t h1]; simp; omega
  · by_cases h2 : 16 < s
    · simp(disch:=first|omega|(simp only[Wx];done)|(simp only[Wy];done)|(simp only[Wv];omega)|with_unfolding_all rfl)only[Wz,ptrTo,sliceTo, lt_f (show 1 ≤ s by omega), lt_t h2]; simp; omega
    · simp(disch:=first|omega|(simp only[Wx];done)|(simp only[Wy];done)|(simp only[Wv];omega)|with_unfolding_all rfl)only[Wz,ptrTo,sliceTo, lt_f (show 1 ≤ s by omega), lt_f (show s ≤ 16 by omega)]; simp; omega
theorem stripe_w (t r s : Int) {h : Heap} {κ : Value → Heap → Prop} (hk : κ (.int .i64 (strN t r s)) h) : CallW Tryd.prog 16 [nmV t r, .int .i64 s] h κ := by
  refine pureW (v := .int .i64 (strN t r s)) rfl rfl (callW_of mixed ?_) hk
  rw [rs_16]
  simp(disch:=first|omega|(simp only[Wx];done)|(simp only[Wy];done)|(simp only[Wv];omega)|with_unfolding_all rfl)only[Wz,ptrTo,sliceTo, nmV]
  refine may_w s ?_
  by_cases h1 : 1 ≤ s ∧ s ≤ 16
  · simp(disch:=first|omega|(simp only[Wx];done)|(simp only[Wy];done)|(simp only[Wv];omega)|with_unfolding_all rfl)only[Wz,ptrTo,sliceTo, dec_t h1.1, dec_t h1.2]
    refine checkN_w t r ?_
    by_cases hl : levelN t r = -1
    · rw [if_pos hl]
      simp(disch:=first|omega|(simp only[Wx];done)|(simp only[Wy];done)|(simp only[Wv];omega)|with_unfolding_all rfl)only[Wz,ptrTo,sliceTo]
      simp [strN, hl]
    · rw [if_neg hl]
      simp(disch:=first|omega|(simp only[Wx];done)|(simp only[Wy];done)|(simp only[Wv];omega)|with_unfolding_all rfl)only[Wz,ptrTo,sliceTo]
      refine hash_w t r hl ?_
      have hr := sumB_range (textN t r)
      have h2 := Int.tmod_lt_of_pos (sumB (textN t r)) (show 0 < s by omega)
      have h3 := Int.tmod_nonneg s hr.1
      simp(disch:=first|omega|(simp only[Wx];done)|(simp only[Wy];done)|(simp only[Wv];omega)|with_unfolding_all rfl)only[Wz,ptrTo,sliceTo, conv_u32, wrap32_id, bin_rem32]
      unfold strN
      rw [if_neg (by omega)]
  · have e : (decide (1 ≤ s) && decide (s ≤ 16)) = false := by simp; omega
    rw [e]
    simp(disch:=first|omega|(simp only[Wx];done)|(simp only[Wy];done)|(simp only[Wv];omega)|with_unfolding_all rfl)only[Wz,ptrTo,sliceTo]
    unfold strN
    rw [if_pos (by omega)]
end Go.Proofs

namespace Go.Proofs
open Go.Vai Go.Clashes
abbrev IE := Int × Int × Nat
def toI (e : IE) : MapEntry := { key := .int .i64 e.1, val := .int .i64 e.2.1, born := e.2.2 }
theorem eqI (h : Heap) (a b : Int) : eqB Tryd.prog h 100 3 (.int .i64 a) (.int .i64 b) = some (decide (a = b)) := by
  have : eqB Tryd.prog h 100 3 (.int .i64 a) (.int .i64 b) = some (ieqB a b) := by kernel_rfl
  rw [this, ieqB_eq]
theorem keyI (t : Int) : keyOk Tryd.prog 20 3 (.int .i64 t) = true := by kernel_rfl
theorem veqI (t : Int) : veq 3 (.int .i64 t) (.int .i64 t) = true := by
  show (kindEq .i64 .i64 && ieqB t t) = true
  rw [ieqB_eq, dec_t rfl]; rfl
theorem findI (h : Heap) (k : Int) : ∀ (M : List IE) (i : Nat), (findB Tryd.prog h 3 (.int .i64 k) (M.map toI) i = some none ∧ M.find? (fun e => decide (k = e.1)) = none) ∨
    ∃ (j : Nat) (e : IE), findB Tryd.prog h 3 (.int .i64 k) (M.map toI) i = some (some (i + j, toI e)) ∧ M[j]? = some e ∧ k = e.1 ∧ M.find? (fun e => decide (k = e.1)) = some e ∧ ∀ (v : Int) (k' : Int), (M.set j (e.1, v, e.2.2)).find? (fun e => decide (k' = e.1)) = if k' = k then some (e.1, v, e.2.2) else M.find? (fun e => decide (k' = e.1)) := by
  intro M
  induction M with
  | nil => intro i; exact .inl ⟨rfl, rfl⟩
  | cons e M ih =>
    intro i
    have hf : findB Tryd.prog h 3 (.int .i64 k) ((e :: M).map toI) i = (match (some (decide (k = e.1)) : Option Bool) with | some true => some (some (i, toI e)) | some false => findB Tryd.prog h 3 (.int .i64 k) (M.map toI) (Nat.succ i) | none => none) := by
      rw [← eqI h]; rfl
    rw [hf]
    by_cases h1 : k = e.1
    · rw [dec_t h1]
      refine .inr ⟨0, e, rfl, rfl, h1, by rw [List.find?_cons, dec_t h1], fun v k' => ?_⟩
      rw [List.set_cons_zero, List.find?_cons, List.find?_cons]
      by_cases h2 : k' = k
      · rw [if_pos h2, dec_t (h2.trans h1)]
      · rw [if_neg h2, dec_f (fun e' => h2 (e'.trans h1.symm))]
    · rw [dec_f h1]
      rcases ih (Nat.succ i) with ⟨g1, g2⟩ | ⟨j, e', g1, g2, g3, g4, g5⟩
      · exact .inl ⟨g1, by rw [List.find?_cons, dec_f h1]; exact g2⟩
      · refine .inr ⟨j + 1, e', by rw [show i + (j + 1) = Nat.succ i + j by omega]; exact g1, g2, g3, by rw [List.find?_cons, dec_f h1]; exact g4, fun v k' => ?_⟩
        rw [List.set_cons_succ, List.find?_cons, List.find?_cons]
        by_cases h2 : k' = e.1
        · rw [dec_t h2]
          simp only
          rw [if_neg (fun e' => h1 (e'.symm.trans h2))]
        · rw [dec_f h2]
          exact g5 v k'
end Go.Proofs
