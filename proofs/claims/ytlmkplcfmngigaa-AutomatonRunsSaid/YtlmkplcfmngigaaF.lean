/-
  PROVED HERE: a part of the proof, by a calculus of weakest conditions over an abstract heap (F1, F2, F3, F4, F5, F6).
-/
import Derived.Test.YtlmkplcfmngigaaP1
import Derived.Test.YtlmkplcfmngigaaRS9
import Derived.Test.YtlmkplcfmngigaaRS10
import Derived.Test.YtlmkplcfmngigaaG1
set_option linter.unusedVariables false
set_option linter.unusedSimpArgs false
set_option maxRecDepth 100000
namespace Go.Proofs
open Go.Vai Go.Clashes
/-! ## modes, more of them -/
def kn (m : Int) : Bool := decide (0 ≤ m) && decide (m ≤ 6)
def tabC : List (List Bool) := [
  [true, false, false, false, false, false, false],
  [true, true, false, false, false, false, false],
  [true, true, true, false, false, false, false],
  [true, true, false, true, false, false, false],
  [true, true, true, true, true, false, false],
  [true, true, false, true, false, true, false],
  [true, true, true, true, true, true, true]]
def cov (a b : Int) : Bool := kn a && kn b && ((tabC.getD a.toNat []).getD b.toNat false)
def supM (a b : Int) : Int := if (kn a && kn b) = true then (if cov a b then a else if cov b a then b else if cov 4 a && cov 4 b then 4 else 6) else 0
def parM (m : Int) : Int := if m = 1 ∨ m = 3 then 1 else if m = 2 ∨ m = 4 ∨ m = 5 ∨ m = 6 then 2 else 0
theorem kn_neg (n : Nat) : kn (.negSucc n) = false := by
  have h : ¬ (0 : Int) ≤ .negSucc n := by omega
  unfold kn; rw [dec_f h]; rfl
theorem kn_big (n : Nat) : kn (.ofNat (n + 7)) = false := by
  have h : ¬ (Int.ofNat (n + 7)) ≤ 6 := by show ¬ ((n + 7 : Nat) : Int) ≤ 6; omega
  unfold kn; rw [dec_f h, Bool.and_false]
theorem cov_kn {a b : Int} (h : cov a b = true) : kn a = true ∧ kn b = true := by
  simp only [cov, Bool.and_eq_true] at h; exact h.1
theorem cov_l {a b : Int} (h : kn a = false) : cov a b = false := by simp [cov, h]
theorem cov_r {a b : Int} (h : kn b = false) : cov a b = false := by simp [cov, h]
theorem supM_l {a b : Int} (h : kn a = false) : supM a b = 0 := by simp [supM, h]
theorem supM_r {a b : Int} (h : kn b = false) : supM a b = 0 := by simp [supM, h]
theorem c77a : ∀ i, i < 7 → ∀ j, j < 7 → answersS Try.prog 200 77 [.int .i64 (.ofNat i), .int .i64 (.ofNat j)] (.bool (cov (.ofNat i) (.ofNat j))) = true := by decide +kernel
theorem c77b (n : Nat) (b : Int) : answersS Try.prog 200 77 [.int .i64 (.negSucc n), .int .i64 b] (.bool false) = true := by kernel_rfl
theorem c77c (n : Nat) (b : Int) : answersS Try.prog 200 77 [.int .i64 (.ofNat (n + 7)), .int .i64 b] (.bool false) = true := by kernel_rfl
theorem c77d : ∀ i, i < 7 → ∀ n : Nat, answersS Try.prog 200 77 [.int .i64 (.ofNat i), .int .i64 (.negSucc n)] (.bool false) = true := by
  refine seven ?_ ?_ ?_ ?_ ?_ ?_ ?_ <;> intro n <;> kernel_rfl
theorem c77e : ∀ i, i < 7 → ∀ n : Nat, answersS Try.prog 200 77 [.int .i64 (.ofNat i), .int .i64 (.ofNat (n + 7))] (.bool false) = true := by
  refine seven ?_ ?_ ?_ ?_ ?_ ?_ ?_ <;> intro n <;> kernel_rfl
/-- mode.Covers -/
theorem covers_w (a b : Int) {h : Heap} {κ : Value → Heap → Prop} (hk : κ (.bool (cov a b)) h) : CallW Try.prog 77 [.int .i64 a, .int .i64 b] h κ :=
  two_modes (F := fun a b => .bool (cov a b)) c77a (fun n b => by rw [cov_l (kn_neg n)]; exact c77b n b) (fun n b => by rw [cov_l (kn_big n)]; exact c77c n b) (fun i hi n => by rw [cov_r (kn_neg n)]; exact c77d i hi n) (fun i hi n => by rw [cov_r (kn_big n)]; exact c77e i hi n) a b hk
theorem c43a : ∀ i, i < 7 → ∀ j, j < 7 → answersS Try.prog 200 43 [.int .i64 (.ofNat i), .int .i64 (.ofNat j)] (.bool (cov (.ofNat i) (.ofNat j))) = true := by decide +kernel
theorem c43b (n : Nat) (b : Int) : answersS Try.prog 200 43 [.int .i64 (.negSucc n), .int .i64 b] (.bool false) = true := by kernel_rfl
theorem c43c (n : Nat) (b : Int) : answersS Try.prog 200 43 [.int .i64 (.ofNat (n + 7)), .int .i64 b] (.bool false) = true := by kernel_rfl
theorem c43d : ∀ i, i < 7 → ∀ n : Nat, answersS Try.prog 200 43 [.int .i64 (.ofNat i), .int .i64 (.negSucc n)] (.bool false) = true := by
  refine seven ?_ ?_ ?_ ?_ ?_ ?_ ?_ <;> intro n <;> kernel_rfl
theorem c43e : ∀ i, i < 7 → ∀ n : Nat, answersS Try.prog 200 43 [.int .i64 (.ofNat i), .int .i64 (.ofNat (n + 7))] (.bool false) = true := by
  refine seven ?_ ?_ ?_ ?_ ?_ ?_ ?_ <;> intro n <;> kernel_rfl
/-- latchstringref01.Covers -/
theorem rcovers_w (a b : Int) {h : Heap} {κ : Value → Heap → Prop} (hk : κ (.bool (cov a b)) h) : CallW Try.prog 43 [.int .i64 a, .int .i64 b] h κ :=
  two_modes (F := fun a b => .bool (cov a b)) c43a (fun n b => by rw [cov_l (kn_neg n)]; exact c43b n b) (fun n b => by rw [cov_l (kn_big n)]; exact c43c n b) (fun i hi n => by rw [cov_r (kn_neg n)]; exact c43d i hi n) (fun i hi n => by rw [cov_r (kn_big n)]; exact c43e i hi n) a b hk
theorem c78a : ∀ i, i < 7 → ∀ j, j < 7 → answersS Try.prog 200 78 [.int .i64 (.ofNat i), .int .i64 (.ofNat j)] (.int .i64 (supM (.ofNat i) (.ofNat j))) = true := by decide +kernel
theorem c78b (n : Nat) (b : Int) : answersS Try.prog 200 78 [.int .i64 (.negSucc n), .int .i64 b] (.int .i64 0) = true := by kernel_rfl
theorem c78c (n : Nat) (b : Int) : answersS Try.prog 200 78 [.int .i64 (.ofNat (n + 7)), .int .i64 b] (.int .i64 0) = true := by kernel_rfl
theorem c78d : ∀ i, i < 7 → ∀ n : Nat, answersS Try.prog 200 78 [.int .i64 (.ofNat i), .int .i64 (.negSucc n)] (.int .i64 0) = true := by
  refine seven ?_ ?_ ?_ ?_ ?_ ?_ ?_ <;> intro n <;> kernel_rfl
theorem c78e : ∀ i, i < 7 → ∀ n : Nat, answersS Try.prog 200 78 [.int .i64 (.ofNat i), .int .i64 (.ofNat (n + 7))] (.int .i64 0) = true := by
  refine seven ?_ ?_ ?_ ?_ ?_ ?_ ?_ <;> intro n <;> kernel_rfl
/-- mode.Sup -/
theorem sup_w (a b : Int) {h : Heap} {κ : Value → Heap → Prop} (hk : κ (.int .i64 (supM a b)) h) : CallW Try.prog 78 [.int .i64 a, .int .i64 b] h κ :=
  two_modes (F := fun a b => .int .i64 (supM a b)) c78a (fun n b => by rw [supM_l (kn_neg n)]; exact c78b n b) (fun n b => by rw [supM_l (kn_big n)]; exact c78c n b) (fun i hi n => by rw [supM_r (kn_neg n)]; exact c78d i hi n) (fun i hi n => by rw [supM_r (kn_big n)]; exact c78e i hi n) a b hk
theorem c58a : ∀ i, i < 7 → ∀ j, j < 7 → answersS Try.prog 200 58 [.int .i64 (.ofNat i), .int .i64 (.ofNat j)] (.int .i64 (supM (.ofNat i) (.ofNat j))) = true := by decide +kernel
theorem c58b (n : Nat) (b : Int) : answersS Try.prog 200 58 [.int .i64 (.negSucc n), .int .i64 b] (.int .i64 0) = true := by kernel_rfl
theorem c58c (n : Nat) (b : Int) : answersS Try.prog 200 58 [.int .i64 (.ofNat (n + 7)), .int .i64 b] (.int .i64 0) = true := by kernel_rfl
theorem c58d : ∀ i, i < 7 → ∀ n : Nat, answersS Try.prog 200 58 [.int .i64 (.ofNat i), .int .i64 (.negSucc n)] (.int .i64 0) = true := by
  refine seven ?_ ?_ ?_ ?_ ?_ ?_ ?_ <;> intro n <;> kernel_rfl
theorem c58e : ∀ i, i < 7 → ∀ n : Nat, answersS Try.prog 200 58 [.int .i64 (.ofNat i), .int .i64 (.ofNat (n + 7))] (.int .i64 0) = true := by
  refine seven ?_ ?_ ?_ ?_ ?_ ?_ ?_ <;> intro n <;> kernel_rfl
/-- latchstringref01.Sup -/
theorem rsup_w (a b : Int) {h : Heap} {κ : Value → Heap → Prop} (hk : κ (.int .i64 (supM a b)) h) : CallW Try.prog 58 [.int .i64 a, .int .i64 b] h κ :=
  two_modes (F := fun a b => .int .i64 (supM a b)) c58a (fun n b => by rw [supM_l (kn_neg n)]; exact c58b n b) (fun n b => by rw [supM_l (kn_big n)]; exact c58c n b) (fun i hi n => by rw [supM_r (kn_neg n)]; exact c58d i hi n) (fun i hi n => by rw [supM_r (kn_big n)]; exact c58e i hi n) a b hk
theorem c16a : ∀ i, i < 7 → ∀ j, j < 7 → answersS Try.prog 200 16 [.int .i64 (.ofNat i), .int .i64 (.ofNat j)] (.bool (cmp (.ofNat i) (.ofNat j))) = true := by decide +kernel
theorem c16b (n : Nat) (b : Int) : answersS Try.prog 200 16 [.int .i64 (.negSucc n), .int .i64 b] (.bool false) = true := by kernel_rfl
theorem c16c (n : Nat) (b : Int) : answersS Try.prog 200 16 [.int .i64 (.ofNat (n + 7)), .int .i64 b] (.bool false) = true := by kernel_rfl
theorem c16d : ∀ i, i < 7 → ∀ n : Nat, answersS Try.prog 200 16 [.int .i64 (.ofNat i), .int .i64 (.negSucc n)] (.bool false) = true := by
  refine seven ?_ ?_ ?_ ?_ ?_ ?_ ?_ <;> intro n <;> kernel_rfl
theorem c16e : ∀ i, i < 7 → ∀ n : Nat, answersS Try.prog 200 16 [.int .i64 (.ofNat i), .int .i64 (.ofNat (n + 7))] (.bool false) = true := by
  refine seven ?_ ?_ ?_ ?_ ?_ ?_ ?_ <;> intro n <;> kernel_rfl
/-- latchstringref01.Compatible -/
theorem rcompat_w (a b : Int) {h : Heap} {κ : Value → Heap → Prop} (hk : κ (.bool (cmp a b)) h) : CallW Try.prog 16 [.int .i64 a, .int .i64 b] h κ :=
  two_modes (F := fun a b => .bool (cmp a b)) c16a (fun n b => by rw [cmp_neg1]; exact c16b n b) (fun n b => by rw [cmp_big1]; exact c16c n b) (fun i hi n => by rw [cmp_neg2]; exact c16d i hi n) (fun i hi n => by rw [cmp_big2]; exact c16e i hi n) a b hk

theorem known_w (a : Int) {h : Heap} {κ : Value → Heap → Prop} (hk : κ (.bool (kn a)) h) : CallW Try.prog 127 [.int .i64 a] h κ := by
  refine pureW (v := .bool (kn a)) rfl rfl (callW_of mixed ?_) hk
  rw [rs_127]
  by_cases h1 : a < 0
  · simp (disch := first | omega | (simp only [Wx]; done) | (simp only [Wy]; done) | (simp only [Wv]; omega) | with_unfolding_all rfl) only [Wz, ptrTo, sliceTo]; simp [kn]; omega
  · by_cases h2 : 6 < a
    · simp (disch := first | omega | (simp only [Wx]; done) | (simp only [Wy]; done) | (simp only [Wv]; omega) | with_unfolding_all rfl) only [Wz, ptrTo, sliceTo]; simp [kn]; omega
    · simp (disch := first | omega | (simp only [Wx]; done) | (simp only [Wy]; done) | (simp only [Wv]; omega) | with_unfolding_all rfl) only [Wz, ptrTo, sliceTo]; simp [kn]; omega
theorem rknown_w (a : Int) {h : Heap} {κ : Value → Heap → Prop} (hk : κ (.bool (kn a)) h) : CallW Try.prog 49 [.int .i64 a] h κ := by
  refine pureW (v := .bool (kn a)) rfl rfl (callW_of mixed ?_) hk
  rw [rs_49]
  by_cases h1 : a < 0
  · simp (disch := first | omega | (simp only [Wx]; done) | (simp only [Wy]; done) | (simp only [Wv]; omega) | with_unfolding_all rfl) only [Wz, ptrTo, sliceTo]; simp [kn]; omega
  · by_cases h2 : 6 < a
    · simp (disch := first | omega | (simp only [Wx]; done) | (simp only [Wy]; done) | (simp only [Wv]; omega) | with_unfolding_all rfl) only [Wz, ptrTo, sliceTo]; simp [kn]; omega
    · simp (disch := first | omega | (simp only [Wx]; done) | (simp only [Wy]; done) | (simp only [Wv]; omega) | with_unfolding_all rfl) only [Wz, ptrTo, sliceTo]; simp [kn]; omega
theorem one_mode {f : FuncId} {F : Int → Value} (h1 : ∀ i, i < 7 → answersS Try.prog 200 f [.int .i64 (.ofNat i)] (F (.ofNat i)) = true)
    (h2 : ∀ (n : Nat), answersS Try.prog 200 f [.int .i64 (.negSucc n)] (F (.negSucc n)) = true) (h3 : ∀ (n : Nat), answersS Try.prog 200 f [.int .i64 (.ofNat (n + 7))] (F (.ofNat (n + 7))) = true)
    (a : Int) {h : Heap} {κ : Value → Heap → Prop} (hk : κ (F a) h) : CallW Try.prog f [.int .i64 a] h κ := by
  refine closedW mixed (n := 200) ?_ hk
  rcases modeCases a with ⟨i, hi, rfl⟩ | ⟨n, rfl⟩ | ⟨n, rfl⟩
  · exact h1 i hi
  · exact h2 n
  · exact h3 n
theorem parM_neg (n : Nat) : parM (.negSucc n) = 0 := by unfold parM; rw [if_neg (by omega), if_neg (by omega)]
theorem parM_big (n : Nat) : parM (.ofNat (n + 7)) = 0 := by
  have : (Int.ofNat (n + 7)) = (n : Int) + 7 := rfl
  rw [this]; unfold parM; rw [if_neg (by omega), if_neg (by omega)]
theorem c75a : ∀ i, i < 7 → answersS Try.prog 200 75 [.int .i64 (.ofNat i)] (.int .i64 (parM (.ofNat i))) = true := by decide +kernel
theorem c75b (n : Nat) : answersS Try.prog 200 75 [.int .i64 (.negSucc n)] (.int .i64 0) = true := by kernel_rfl
theorem c75c (n : Nat) : answersS Try.prog 200 75 [.int .i64 (.ofNat (n + 7))] (.int .i64 0) = true := by kernel_rfl
/-- mode.Parent -/
theorem parent_w (a : Int) {h : Heap} {κ : Value → Heap → Prop} (hk : κ (.int .i64 (parM a)) h) : CallW Try.prog 75 [.int .i64 a] h κ :=
  one_mode (F := fun a => .int .i64 (parM a)) c75a (fun n => by rw [parM_neg]; exact c75b n) (fun n => by rw [parM_big]; exact c75c n) a hk
theorem c94a : ∀ i, i < 7 → answersS Try.prog 200 94 [.int .i64 (.ofNat i)] (.int .i64 (parM (.ofNat i))) = true := by decide +kernel
theorem c94b (n : Nat) : answersS Try.prog 200 94 [.int .i64 (.negSucc n)] (.int .i64 0) = true := by kernel_rfl
theorem c94c (n : Nat) : answersS Try.prog 200 94 [.int .i64 (.ofNat (n + 7))] (.int .i64 0) = true := by kernel_rfl
theorem rparent_w (a : Int) {h : Heap} {κ : Value → Heap → Prop} (hk : κ (.int .i64 (parM a)) h) : CallW Try.prog 94 [.int .i64 a] h κ :=
  one_mode (F := fun a => .int .i64 (parM a)) c94a (fun n => by rw [parM_neg]; exact c94b n) (fun n => by rw [parM_big]; exact c94c n) a hk
theorem lives17 : answersS Try.prog 2000 38 [] (.bool true) = true := by kernel_rfl
end Go.Proofs

namespace Go.Proofs
open Go.Vai Go.Clashes
/-! ## names above a name -/
abbrev N2 := Int × Int
def enc2 (p : N2) : List Value := [.int .i64 p.1, .int .i64 p.2]
theorem enc2_len (p : N2) : (enc2 p).length = 2 := rfl
theorem enc2_one (p : N2) : (enc2 p).all oneC = true := rfl
def anc (t r : Int) : List N2 := if lvl t r = 1 then [(-1, -1)] else if lvl t r = 2 then [(-1, -1), (t, -1)] else []
theorem repeatL_s (zs : List Value) (n : Nat) : repeatL zs (n + 1) = zs ++ repeatL zs n := id rfl
theorem max0 {β : Type} {fl : β} (a : Int) (h : Heap) (κ : Value → Heap → β) (ha : 0 ≤ a) : maxB fl (.int .i64 a) (.int .i64 0) h κ = κ (.int .i64 a) h := by
  unfold maxB
  simp only
  rw [iltB_eq, dec_f (by omega)]
theorem maxn {β : Type} {fl : β} (h : Heap) (κ : Value → Heap → β) : maxB fl (.int .i64 (-1)) (.int .i64 0) h κ = κ (.int .i64 0) h := id rfl
theorem sl22_0 {β : Type} {fl : β} (b : Nat) (h : Heap) (κ : Value → Heap → β) : sliceB fl 27 2 (.slice (some ⟨b, 0, none⟩) 2 2) none (some (.int .i64 0)) none h κ = κ (.slice (some ⟨b, 0, none⟩) 0 2) h := by
  unfold sliceB; rfl
theorem sl22_1 {β : Type} {fl : β} (b : Nat) (h : Heap) (κ : Value → Heap → β) : sliceB fl 27 2 (.slice (some ⟨b, 0, none⟩) 2 2) none (some (.int .i64 1)) none h κ = κ (.slice (some ⟨b, 0, none⟩) 1 2) h := by
  unfold sliceB; rfl
theorem sl22_2 {β : Type} {fl : β} (b : Nat) (h : Heap) (κ : Value → Heap → β) : sliceB fl 27 2 (.slice (some ⟨b, 0, none⟩) 2 2) none (some (.int .i64 2)) none h κ = κ (.slice (some ⟨b, 0, none⟩) 2 2) h := by
  unfold sliceB; rfl
/-- name.Ancestors -/
theorem anc_w (t r : Int) (h : Heap) (κ : Value → Heap → Prop) (hlo : h.lo ≤ h.nx) (hk : ∀ v h', Sl enc2 h' v (anc t r) → veq 8 v v = true → Le h h' → κ v h') : CallW Try.prog 76 [nmV t r] h κ := by
  refine callW_of mixed ?_
  rw [rs_76]
  simp (disch := first | omega | (simp only [Wx]; done) | (simp only [Wy]; done) | (simp only [Wv]; omega) | with_unfolding_all rfl) only [Wz, ptrTo, sliceTo, nmV]
  refine database_w ?_
  simp (disch := first | omega | (simp only [Wx]; done) | (simp only [Wy]; done) | (simp only [Wv]; omega) | with_unfolding_all rfl) only [Wz, ptrTo, sliceTo, nmV, repeatL_s, List.cons_append, List.nil_append]
  refine level_w t r ?_
  have hle1 := (Le.refl h).new (cellsO [.int .i64 t, .int .i64 r] 27 false)
  have hle2 := hle1.new (cellsO [.int .i64 (-1), .int .i64 (-1), .int .i64 t, .int .i64 (-1)] 27 false)
  have hh : ∀ k, k ≤ 4 → Has ((T.upd (T.upd h.bl h.nx (cellsO [.int .i64 t, .int .i64 r] 27 false)) (h.nx + 1) (cellsO [.int .i64 (-1), .int .i64 (-1), .int .i64 t, .int .i64 (-1)] 27 false)).get (h.nx + 1)) 0 ([Value.int .i64 (-1), .int .i64 (-1), .int .i64 t, .int .i64 (-1)].take k) := by
    intro k hk
    rw [T.get_upd_same]
    have := Has.cells (vs := [Value.int .i64 (-1), .int .i64 (-1), .int .i64 t, .int .i64 (-1)]) (e := 27) (op := false) (o := 0) (k := k) (by simpa using hk)
    simpa using this
  rcases lvl_cases t r with h1 | h1 | h1 | h1
  · simp (disch := first | omega | (simp only [Wx]; done) | (simp only [Wy]; done) | (simp only [Wv]; omega) | with_unfolding_all rfl) only [Wz, ptrTo, sliceTo, h1, maxn, sl22_0]
    exact hk _ _ ⟨some ⟨h.nx + 1, 0, none⟩, 2, by simp [anc, h1], fun hn => by simp [anc, h1] at hn⟩ (veq_sli _ _ _ _) hle2
  · simp (disch := first | omega | (simp only [Wx]; done) | (simp only [Wy]; done) | (simp only [Wv]; omega) | with_unfolding_all rfl) only [Wz, ptrTo, sliceTo, h1, max0, sl22_0]
    exact hk _ _ ⟨some ⟨h.nx + 1, 0, none⟩, 2, by simp [anc, h1], fun hn => by simp [anc, h1] at hn⟩ (veq_sli _ _ _ _) hle2
  · simp (disch := first | omega | (simp only [Wx]; done) | (simp only [Wy]; done) | (simp only [Wv]; omega) | with_unfolding_all rfl) only [Wz, ptrTo, sliceTo, h1, max0, sl22_1]
    exact hk _ _ ⟨some ⟨h.nx + 1, 0, none⟩, 2, by simp [anc, h1], fun _ => ⟨_, 0, rfl, Nat.lt_succ_self _, by simpa [anc, h1, enc2] using hh 2 (by omega)⟩⟩ (veq_sli _ _ _ _) hle2
  · simp (disch := first | omega | (simp only [Wx]; done) | (simp only [Wy]; done) | (simp only [Wv]; omega) | with_unfolding_all rfl) only [Wz, ptrTo, sliceTo, h1, max0, sl22_2]
    exact hk _ _ ⟨some ⟨h.nx + 1, 0, none⟩, 2, by simp [anc, h1], fun _ => ⟨_, 0, rfl, Nat.lt_succ_self _, by simpa [anc, h1, enc2] using hh 4 (by omega)⟩⟩ (veq_sli _ _ _ _) hle2
/-! ## names and modes by numbers -/
def nmF (n : Int) : N2 := if pickM n 13 = 0 then (-1, -1) else if pickM n 13 < 4 then (pickM n 13 - 1, -1) else (Int.tdiv (pickM n 13 - 4) 3, Int.tmod (pickM n 13 - 4) 3)
def mdF (n : Int) : Int := 1 + pickM n 6
theorem mdF_range (n : Int) : 1 ≤ mdF n ∧ mdF n ≤ 6 := by have := pickM_range (n := n) (m := 6) (by omega); unfold mdF; omega
theorem mdF_kn (n : Int) : kn (mdF n) = true ∧ mdF n ≠ 0 := by
  have := mdF_range n
  refine ⟨?_, by omega⟩
  unfold kn; rw [dec_t (by omega), dec_t (by omega)]; rfl
theorem nmF_ok (n : Int) : okN (nmF n).1 (nmF n).2 = true := by
  have h := pickM_range (n := n) (m := 13) (by omega)
  unfold nmF
  by_cases h1 : pickM n 13 = 0
  · rw [if_pos h1]; rfl
  · rw [if_neg h1]
    by_cases h2 : pickM n 13 < 4
    · rw [if_pos h2]
      have h3 : pickM n 13 - 1 ≠ -1 := by omega
      have h4 : within (pickM n 13 - 1) = true := by unfold within; rw [dec_t (by omega), dec_t (by omega)]; rfl
      simp [okN, lvl, h3, h4]
    · rw [if_neg h2]
      have e1 : Int.tdiv (pickM n 13 - 4) 3 = (pickM n 13 - 4) / 3 := Int.tdiv_eq_ediv_of_nonneg (by omega)
      have e2 : Int.tmod (pickM n 13 - 4) 3 = (pickM n 13 - 4) % 3 := Int.tmod_eq_emod_of_nonneg (by omega)
      rw [e1, e2]
      have h4 : within ((pickM n 13 - 4) / 3) = true := by unfold within; rw [dec_t (by omega), dec_t (by omega)]; rfl
      have h5 : within ((pickM n 13 - 4) % 3) = true := by unfold within; rw [dec_t (by omega), dec_t (by omega)]; rfl
      have h6 : ¬ ((pickM n 13 - 4) % 3 = -1) := by omega
      simp [okN, lvl, h4, h5, h6]
theorem mode6_w (n : Int) {h : Heap} {κ : Value → Heap → Prop} (hk : κ (.int .i64 (mdF n)) h) : CallW Try.prog 40 [.int .i64 n] h κ := by
  refine callW_of mixed ?_
  rw [rs_40]
  refine pick_w _ _ (by omega) ?_
  have h := pickM_range (n := n) (m := 6) (by omega)
  simp (disch := first | omega | (simp only [Wx]; done) | (simp only [Wy]; done) | (simp only [Wv]; omega) | with_unfolding_all rfl) only [Wz, ptrTo, sliceTo]
  exact hk
theorem rname_w (t r : Int) {h : Heap} {κ : Value → Heap → Prop} (hk : κ (nmV t r) h) : CallW Try.prog 73 [.int .i64 t, .int .i64 r] h κ := by
  refine pureW (v := nmV t r) rfl rfl (callW_of mixed ?_) hk
  rw [rs_73]
  simp (disch := first | omega | (simp only [Wx]; done) | (simp only [Wy]; done) | (simp only [Wv]; omega) | with_unfolding_all rfl) only [Wz, ptrTo, sliceTo]
  rfl
theorem kdb_a : answersS Try.prog 100 67 [] (nmV (-1) (-1)) = true := by kernel_rfl
theorem kdb_w {h : Heap} {κ : Value → Heap → Prop} (hk : κ (nmV (-1) (-1)) h) : CallW Try.prog 67 [] h κ := closedW mixed kdb_a hk
theorem name13_w (n : Int) {h : Heap} {κ : Value → Heap → Prop} (hk : κ (nmV (nmF n).1 (nmF n).2) h) : CallW Try.prog 39 [.int .i64 n] h κ := by
  refine pureW (v := nmV (nmF n).1 (nmF n).2) rfl rfl (callW_of mixed ?_) hk
  rw [rs_39]
  have hl0 : heap0.lo ≤ heap0.nx := Nat.le_refl _
  simp (disch := first | omega | (simp only [Wx]; done) | (simp only [Wy]; done) | (simp only [Wv]; omega) | with_unfolding_all rfl) only [Wz, ptrTo, sliceTo]
  refine pick_w _ _ (by omega) ?_
  have h := pickM_range (n := n) (m := 13) (by omega)
  by_cases h1 : pickM n 13 = 0
  · simp (disch := first | omega | (simp only [Wx]; done) | (simp only [Wy]; done) | (simp only [Wv]; omega) | with_unfolding_all rfl) only [Wz, ptrTo, sliceTo, dec_t h1]
    refine kdb_w ?_
    simp (disch := first | omega | (simp only [Wx]; done) | (simp only [Wy]; done) | (simp only [Wv]; omega) | with_unfolding_all rfl) only [Wz, ptrTo, sliceTo, nmV]
    simp [nmF, h1]
  · simp (disch := first | omega | (simp only [Wx]; done) | (simp only [Wy]; done) | (simp only [Wv]; omega) | with_unfolding_all rfl) only [Wz, ptrTo, sliceTo, dec_f h1]
    by_cases h2 : pickM n 13 < 4
    · simp (disch := first | omega | (simp only [Wx]; done) | (simp only [Wy]; done) | (simp only [Wv]; omega) | with_unfolding_all rfl) only [Wz, ptrTo, sliceTo, rs_39_1]
      refine tname_w _ ?_
      simp (disch := first | omega | (simp only [Wx]; done) | (simp only [Wy]; done) | (simp only [Wv]; omega) | with_unfolding_all rfl) only [Wz, ptrTo, sliceTo, nmV]
      simp [nmF, h1, h2]
    · have e1 : Int.tdiv (pickM n 13 - 4) 3 = (pickM n 13 - 4) / 3 := Int.tdiv_eq_ediv_of_nonneg (by omega)
      have e2 : Int.tmod (pickM n 13 - 4) 3 = (pickM n 13 - 4) % 3 := Int.tmod_eq_emod_of_nonneg (by omega)
      simp (disch := first | omega | (simp only [Wx]; done) | (simp only [Wy]; done) | (simp only [Wv]; omega) | with_unfolding_all rfl) only [Wz, ptrTo, sliceTo, rs_39_1, rs_39_0, bin_quo _ _ _ _ _ 3 _ _ (by omega), bin_rem _ _ _ _ _ 3 _ _ (by omega), e1, e2]
      refine rname_w _ _ ?_
      simp (disch := first | omega | (simp only [Wx]; done) | (simp only [Wy]; done) | (simp only [Wv]; omega) | with_unfolding_all rfl) only [Wz, ptrTo, sliceTo, nmV]
      simp [nmF, h1, h2, e1, e2]
end Go.Proofs

namespace Go.Proofs
open Go.Vai Go.Clashes
def letsM (a m : Int) : Bool := decide (a = 6) || ((decide (a = 3) || decide (a = 4) || decide (a = 5)) && (decide (m = 1) || decide (m = 3)))
theorem c89a : ∀ i, i < 7 → ∀ j, j < 7 → answersS Try.prog 200 89 [.int .i64 (.ofNat i), .int .i64 (.ofNat j)] (.bool (letsM (.ofNat i) (.ofNat j))) = true := by decide +kernel
theorem c89b (n : Nat) (b : Int) : answersS Try.prog 200 89 [.int .i64 (.negSucc n), .int .i64 b] (.bool (letsM (.negSucc n) b)) = true := by kernel_rfl
theorem c89c (n : Nat) (b : Int) : answersS Try.prog 200 89 [.int .i64 (.ofNat (n + 7)), .int .i64 b] (.bool (letsM (.ofNat (n + 7)) b)) = true := by kernel_rfl
theorem c89d : ∀ i, i < 7 → ∀ n : Nat, answersS Try.prog 200 89 [.int .i64 (.ofNat i), .int .i64 (.negSucc n)] (.bool (letsM (.ofNat i) (.negSucc n))) = true := by
  refine seven ?_ ?_ ?_ ?_ ?_ ?_ ?_ <;> intro n <;> kernel_rfl
theorem c89e : ∀ i, i < 7 → ∀ n : Nat, answersS Try.prog 200 89 [.int .i64 (.ofNat i), .int .i64 (.ofNat (n + 7))] (.bool (letsM (.ofNat i) (.ofNat (n + 7)))) = true := by
  refine seven ?_ ?_ ?_ ?_ ?_ ?_ ?_ <;> intro n <;> kernel_rfl
theorem lets_w (a b : Int) {h : Heap} {κ : Value → Heap → Prop} (hk : κ (.bool (letsM a b)) h) : CallW Try.prog 89 [.int .i64 a, .int .i64 b] h κ :=
  two_modes (F := fun a b => .bool (letsM a b)) c89a c89b c89c c89d c89e a b hk
/-- may be asked for -/
def askM (t r m : Int) : Bool := okN t r && kn m && decide (m ≠ 0)
theorem asked_w (t r m : Int) {h : Heap} {κ : Value → Heap → Prop} (hk : κ (.bool (askM t r m)) h) : CallW Try.prog 86 [nmV t r, .int .i64 m] h κ := by
  refine pureW (v := .bool (askM t r m)) rfl rfl (callW_of mixed ?_) hk
  rw [rs_86]
  simp (disch := first | omega | (simp only [Wx]; done) | (simp only [Wy]; done) | (simp only [Wv]; omega) | with_unfolding_all rfl) only [Wz, ptrTo, sliceTo, nmV]
  refine check_w t r ?_
  cases hok : okN t r with
  | false =>
    simp (disch := first | omega | (simp only [Wx]; done) | (simp only [Wy]; done) | (simp only [Wv]; omega) | with_unfolding_all rfl) only [Wz, ptrTo, sliceTo, dec_f (show ¬ (2 : Int) = 0 by decide), Bool.false_eq_true, if_false]
    simp [askM, hok]
  | true =>
    simp (disch := first | omega | (simp only [Wx]; done) | (simp only [Wy]; done) | (simp only [Wv]; omega) | with_unfolding_all rfl) only [Wz, ptrTo, sliceTo, if_true]
    refine known_w m ?_
    cases hkn : kn m with
    | false => simp (disch := first | omega | (simp only [Wx]; done) | (simp only [Wy]; done) | (simp only [Wv]; omega) | with_unfolding_all rfl) only [Wz, ptrTo, sliceTo]; simp [askM, hok, hkn]
    | true =>
      by_cases h0 : m = 0
      · simp (disch := first | omega | (simp only [Wx]; done) | (simp only [Wy]; done) | (simp only [Wv]; omega) | with_unfolding_all rfl) only [Wz, ptrTo, sliceTo, dec_t h0]; simp [askM, hok, hkn, h0]
      · simp (disch := first | omega | (simp only [Wx]; done) | (simp only [Wy]; done) | (simp only [Wv]; omega) | with_unfolding_all rfl) only [Wz, ptrTo, sliceTo, dec_f h0]; simp [askM, hok, hkn, h0]

/-- a name in a slice: its address; how it is read -/
theorem ld2 {h : Heap} {v : Value} {L : List N2} (hs : Sl enc2 h v L) (i : Nat) {p : N2} (hp : L[i]? = some p) :
    ∃ b o, b < h.nx ∧ (∀ (β : Type) (fl : β) (h' : Heap) (κ : Value → Heap → β), indexAddrS fl 2 v (.int .i64 (i : Int)) h' κ = κ (.pointer (some ⟨b, o, none⟩)) h') ∧
      ((∀ (β : Type) (fl : β) (κ : List Value → β), ldA fl (h.bl.get b) o 2 κ = κ (enc2 p)) ∧
      (∀ (β : Type) (fl : β) (κ : Value → β), ldO fl (h.bl.get b) o κ = κ (.int .i64 p.1)) ∧
      (∀ (β : Type) (fl : β) (κ : Value → β), ldO fl (h.bl.get b) (o + 1) κ = κ (.int .i64 p.2))) := by
  obtain ⟨b, o, h1, h2, h3, hh⟩ := hs.ld enc2_len i hp
  have h4 : (enc2 p).length = 2 := rfl
  refine ⟨b, o, h1, h2, h3, fun β fl κ => ?_, fun β fl κ => ?_⟩
  · exact ldO_has (fl := fl) hh 0 κ (by omega)
  · exact ldO_has (fl := fl) hh 1 κ (by omega)
/-- slices.IndexFunc at names -/
theorem indexFuncN_w (L : List N2) (F : N2 → Bool) (h : Heap) (v fv : Value) (κ : Value → Heap → Prop) (hv : Sl enc2 h v L) (hlen : L.length ≤ 1000000)
    (hF : ∀ p, p ∈ L → ∀ (h1 : Heap) (κ1 : Value → Heap → Prop), Le h h1 → (∀ h2, Le h1 h2 → κ1 (.bool (F p)) h2) → CallV Try.prog fv [nmV p.1 p.2] h1 κ1)
    (hk : ∀ h', Le h h' → κ (.int .i64 (optI (L.findIdx? F))) h') : CallW Try.prog 133 [v, fv] h κ := by
  refine callW_of mixed ?_
  rw [rs_133]
  simp only [hv.len]
  refine ⟨fun n l h1 => Le h h1 ∧ ∃ k : Nat, slot l 12 = .int .i64 (k : Int) ∧ k ≤ L.length ∧ n = L.length - k ∧ ∀ (j : Nat) p, j < k → L[j]? = some p → F p = false, ⟨_, Le.refl _, 0, rfl, Nat.zero_le _, rfl, by omega⟩, ?_⟩
  rintro n l h1 ⟨hle, k, hs, hkl, rfl, hno⟩
  by_cases hlt : k < L.length
  · obtain ⟨p, hp⟩ : ∃ p, L[k]? = some p := ⟨_, List.getElem?_eq_getElem hlt⟩
    obtain ⟨b, o, hb, hat, hld⟩ := ld2 hv k hp
    have hn := hle.nx
    simp (disch := first | omega | (simp only [Wx]; done) | (simp only [Wy]; done) | (simp only [Wv]; omega) | with_unfolding_all rfl) only [Wz, ptrTo, sliceTo, hv.len, hs, rs_133_0, hat, hle.get, hld, enc2]
    refine hF p (List.mem_of_getElem? hp) h1 _ hle ?_
    intro h2 hle2
    cases hc : F p with
    | true =>
      simp (disch := first | omega | (simp only [Wx]; done) | (simp only [Wy]; done) | (simp only [Wv]; omega) | with_unfolding_all rfl) only [Wz, ptrTo, sliceTo, hs]
      have : L.findIdx? F = some k := by
        rw [List.findIdx?_eq_some_iff_getElem]
        obtain ⟨hk1, hk2⟩ := List.getElem?_eq_some_iff.1 hp
        refine ⟨hk1, by rw [hk2]; exact hc, fun j hj => ?_⟩
        have := hno j _ hj (List.getElem?_eq_getElem (by omega))
        simp [this]
      have hk2 := hk h2 (hle.trans hle2)
      rw [this] at hk2
      exact hk2
    | false =>
      simp (disch := first | omega | (simp only [Wx]; done) | (simp only [Wy]; done) | (simp only [Wv]; omega) | with_unfolding_all rfl) only [Wz, ptrTo, sliceTo, hs]
      refine ⟨_, by omega, hle.trans hle2, k + 1, rfl, by omega, rfl, fun j q hj hq => ?_⟩
      rcases Nat.lt_or_ge j k with h4 | h4
      · exact hno j q h4 hq
      · obtain rfl : j = k := by omega
        rw [hp] at hq; cases hq; exact hc
  · simp (disch := first | omega | (simp only [Wx]; done) | (simp only [Wy]; done) | (simp only [Wv]; omega) | with_unfolding_all rfl) only [Wz, ptrTo, sliceTo, hv.len, hs]
    have : L.findIdx? F = none := by
      rw [List.findIdx?_eq_none_iff]
      intro p hp
      obtain ⟨j, hj, rfl⟩ := List.mem_iff_getElem.1 hp
      have := hno j _ (by omega) (List.getElem?_eq_getElem hj)
      simp [this]
    have hk2 := hk h1 hle
    rw [this] at hk2
    exact hk2
theorem optI_any {α : Type} (L : List α) (F : α → Bool) : (decide (0 ≤ optI (L.findIdx? F))) = L.any F := by
  cases h : L.findIdx? F with
  | none =>
    rw [List.findIdx?_eq_none_iff] at h
    have : L.any F = false := by
      rw [List.any_eq_false]; intro x hx; rw [h x hx]; simp
    rw [this]; rfl
  | some i =>
    rw [List.findIdx?_eq_some_iff_getElem] at h
    obtain ⟨h1, h2, _⟩ := h
    have : L.any F = true := List.any_eq_true.2 ⟨_, List.getElem_mem h1, h2⟩
    rw [this]; show decide ((0 : Int) ≤ (i : Nat)) = true
    simp
theorem containsFuncN_w (L : List N2) (F : N2 → Bool) (h : Heap) (v fv : Value) (κ : Value → Heap → Prop) (hv : Sl enc2 h v L) (hlen : L.length ≤ 1000000)
    (hF : ∀ p, p ∈ L → ∀ (h1 : Heap) (κ1 : Value → Heap → Prop), Le h h1 → (∀ h2, Le h1 h2 → κ1 (.bool (F p)) h2) → CallV Try.prog fv [nmV p.1 p.2] h1 κ1)
    (hk : ∀ h', Le h h' → κ (.bool (L.any F)) h') : CallW Try.prog 87 [v, fv] h κ := by
  refine callW_of mixed ?_
  rw [rs_87]
  refine indexFuncN_w L F h v fv _ hv hlen hF ?_
  intro h' hl
  have := hk h' hl
  rw [← optI_any] at this
  by_cases h0 : optI (L.findIdx? F) < 0
  · simp (disch := first | omega | (simp only [Wx]; done) | (simp only [Wy]; done) | (simp only [Wv]; omega) | with_unfolding_all rfl) only [Wz, ptrTo, sliceTo]
    rwa [dec_f (by omega)] at this
  · simp (disch := first | omega | (simp only [Wx]; done) | (simp only [Wy]; done) | (simp only [Wv]; omega) | with_unfolding_all rfl) only [Wz, ptrTo, sliceTo]
    rwa [dec_t (by omega)] at this

/-! ## what is implied -/
def impF (f : Int → Int → Int) (t r m : Int) : Bool := !askM t r m || cov (f t r) m || (anc t r).any fun a => letsM (f a.1 a.2) m
theorem imp1_w (L : List H4) (t r m : Int) (b1 b5 : Nat) (h : Heap) (v : Value) (κ : Value → Heap → Prop) (hv : Sl enc4 h v L) (hlen : L.length ≤ 100000) (hlo : h.lo ≤ h.nx) (n1 : b1 < h.nx) (n5 : b5 < h.nx)
    (g1 : h.bl.get b1 = some (cellsO [v] 22 false)) (g5 : h.bl.get b5 = some (cellsO [.int .i64 m] 28 false)) (hk : ∀ h', Le h h' → κ (.bool (letsM (modeOf L t r) m)) h') : CallW Try.prog 88 [nmV t r, ptrTo b1, ptrTo b5] h κ := by
  refine callW_of mixed ?_
  rw [rs_88]
  simp (disch := first | omega | (simp only [Wx]; done) | (simp only [Wy]; done) | (simp only [Wv]; omega) | with_unfolding_all rfl) only [Wz, ptrTo, sliceTo, nmV, g1, g5]
  have hle := (Le.refl h).new (cellsO [.int .i64 t, .int .i64 r] 27 false)
  refine mode_w L t r _ v _ (hv.le hle) (by omega) (by show h.lo ≤ h.nx + 1; omega) ?_
  intro h' hl'
  have hall := hle.trans hl'
  have g5' := (hall.get b5 n5).trans g5
  simp (disch := first | omega | (simp only [Wx]; done) | (simp only [Wy]; done) | (simp only [Wv]; omega) | with_unfolding_all rfl) only [Wz, ptrTo, sliceTo, g5']
  exact lets_w _ _ (hk h' hall)
/-- cache.Implied -/
theorem implied_w (L : List H4) (t r m : Int) (h : Heap) (v : Value) (κ : Value → Heap → Prop) (hv : Sl enc4 h v L) (hlen : L.length ≤ 100000) (hlo : h.lo ≤ h.nx) (hk : ∀ h', Le h h' → κ (.bool (impF (modeOf L) t r m)) h') :
    CallW Try.prog 46 [v, nmV t r, .int .i64 m] h κ := by
  refine callW_of mixed ?_
  rw [rs_46]
  have hv0 := hv
  obtain ⟨x, cap, rfl, hx⟩ := hv
  simp (disch := first | omega | (simp only [Wx]; done) | (simp only [Wy]; done) | (simp only [Wv]; omega) | with_unfolding_all rfl) only [Wz, ptrTo, sliceTo, nmV]
  obtain ⟨hA, eA⟩ : ∃ hA : Heap, hA = ⟨h.nx + 1 + 1 + 1, T.upd (T.upd (h.bl.upd h.nx (cellsO [.slice x L.length cap] 22 false)) (h.nx + 1) (cellsO [.int .i64 t, .int .i64 r] 27 false)) (h.nx + 1 + 1) (cellsO [.int .i64 m] 28 false), h.lo⟩ := ⟨_, rfl⟩
  have hleA : Le h hA := by subst eA; exact (((Le.refl h).new _).new _).new _
  have g1 : hA.bl.get h.nx = some (cellsO [.slice x L.length cap] 22 false) := by subst eA; exact (T.get_updne _ _ (by omega)).trans ((T.get_updne _ _ (by omega)).trans (T.get_upd_same _ _ _))
  have g3 : hA.bl.get (h.nx + 1) = some (cellsO [.int .i64 t, .int .i64 r] 27 false) := by subst eA; exact (T.get_updne _ _ (by omega)).trans (T.get_upd_same _ _ _)
  have g5 : hA.bl.get (h.nx + 1 + 1) = some (cellsO [.int .i64 m] 28 false) := by subst eA; exact T.get_upd_same _ _ _
  have nA : hA.nx = h.nx + 1 + 1 + 1 := by subst eA; rfl
  have lA : hA.lo = h.lo := by subst eA; rfl
  rw [← eA]
  clear eA
  refine asked_w t r m ?_
  have hvA := hv0.le hleA
  cases ha : askM t r m with
  | false =>
    simp (disch := first | omega | (simp only [Wx]; done) | (simp only [Wy]; done) | (simp only [Wv]; omega) | with_unfolding_all rfl) only [Wz, ptrTo, sliceTo]
    have := hk hA hleA
    simpa [impF, ha] using this
  | true =>
    simp (disch := first | omega | (simp only [Wx]; done) | (simp only [Wy]; done) | (simp only [Wv]; omega) | with_unfolding_all rfl) only [Wz, ptrTo, sliceTo, g1, g3, g5]
    refine mode_w L t r hA _ _ hvA (by omega) (by omega) ?_
    intro h2 hle2
    have n2 := hle2.nx
    have l2 := hle2.lo
    have g3' := (hle2.get _ (by omega)).trans g3
    have g5' := (hle2.get _ (by omega)).trans g5
    have g1' := (hle2.get _ (by omega)).trans g1
    simp (disch := first | omega | (simp only [Wx]; done) | (simp only [Wy]; done) | (simp only [Wv]; omega) | with_unfolding_all rfl) only [Wz, ptrTo, sliceTo, g5']
    refine covers_w _ _ ?_
    have hall2 := hleA.trans hle2
    cases hc : cov (modeOf L t r) m with
    | true =>
      simp (disch := first | omega | (simp only [Wx]; done) | (simp only [Wy]; done) | (simp only [Wv]; omega) | with_unfolding_all rfl) only [Wz, ptrTo, sliceTo]
      have := hk h2 hall2
      simpa [impF, ha, hc] using this
    | false =>
      simp (disch := first | omega | (simp only [Wx]; done) | (simp only [Wy]; done) | (simp only [Wv]; omega) | with_unfolding_all rfl) only [Wz, ptrTo, sliceTo, g3']
      refine anc_w t r h2 _ (by omega) ?_
      intro u h3 hu _ hle3
      have n3 := hle3.nx
      have l3 := hle3.lo
      have hlA : (anc t r).length ≤ 2 := by unfold anc; split <;> (try split) <;> simp
      refine containsFuncN_w (anc t r) (fun a => letsM (modeOf L a.1 a.2) m) h3 u _ _ hu (by omega) ?_ ?_
      · intro p hp h4 κ4 hle4 hk4
        have n4 := hle4.nx
        have l4 := hle4.lo
        simp (disch := first | omega | (simp only [Wx]; done) | (simp only [Wy]; done) | (simp only [Wv]; omega) | with_unfolding_all rfl) only [Wz, ptrTo, sliceTo, List.nil_append, List.cons_append]
        exact imp1_w L p.1 p.2 m h.nx (h.nx + 1 + 1) h4 _ κ4 (((hvA.le hle2).le hle3).le hle4) hlen (by omega) (by omega) (by omega)
          ((hle4.get _ (by omega)).trans ((hle3.get _ (by omega)).trans g1')) ((hle4.get _ (by omega)).trans ((hle3.get _ (by omega)).trans g5')) hk4
      · intro h4 hle4
        have := hk h4 ((hall2.trans hle3).trans hle4)
        simpa [impF, ha, hc] using this
end Go.Proofs

namespace Go.Proofs
open Go.Vai Go.Clashes
def HE3 (a b : Heap) : Prop := a = b
theorem anc_len (t r : Int) : (anc t r).length ≤ 2 := by unfold anc; split <;> (try split) <;> simp
def wholeF (f : Int → Int → Int) (L : List H4) : Bool := L.all fun p => (anc p.t p.r).all fun a => cov (f a.1 a.2) (parM p.m)
theorem whole_w (L : List H4) (h : Heap) (v : Value) (κ : Value → Heap → Prop) (hv : Sl enc4 h v L) (hlen : L.length ≤ 100000) (hlo : h.lo ≤ h.nx) (hk : ∀ h', Le h h' → κ (.bool (wholeF (modeOf L) L)) h') :
    CallW Try.prog 45 [v] h κ := by
  refine callW_of mixed ?_
  rw [rs_45]
  simp (disch := first | omega | (simp only [Wx]; done) | (simp only [Wy]; done) | (simp only [Wv]; omega) | with_unfolding_all rfl) only [Wz, ptrTo, sliceTo, hv.len]
  refine ⟨fun n l h1 => Le h h1 ∧ ∃ i : Nat, slot l 24 = .int .i64 (i : Int) ∧ i ≤ L.length ∧ n = L.length - i ∧ wholeF (modeOf L) (L.take i) = true, ⟨_, Le.refl _, 0, rfl, Nat.zero_le _, rfl, rfl⟩, ?_⟩
  rintro n l h1 ⟨hle1, i, s1, hi, rfl, hw⟩
  have n1 := hle1.nx
  have l1 := hle1.lo
  by_cases hlt : i < L.length
  · obtain ⟨p, hp⟩ : ∃ p, L[i]? = some p := ⟨_, List.getElem?_eq_getElem hlt⟩
    obtain ⟨b, o, hb, hat, hld⟩ := ld4 (hv.le hle1) i hp
    simp (disch := first | omega | (simp only [Wx]; done) | (simp only [Wy]; done) | (simp only [Wv]; omega) | with_unfolding_all rfl) only [Wz, ptrTo, sliceTo, s1, rs_45_1, hat, hld, enc4]
    obtain ⟨hA, eA⟩ : ∃ hA : Heap, hA = ⟨h1.nx + 1, h1.bl.upd h1.nx (cellsO [.int .i64 p.x, .int .i64 p.t, .int .i64 p.r, .int .i64 p.m] 30 false), h1.lo⟩ := ⟨_, rfl⟩
    have hleA : Le h1 hA := by subst eA; exact (Le.refl h1).new _
    have gA : hA.bl.get h1.nx = some (cellsO [.int .i64 p.x, .int .i64 p.t, .int .i64 p.r, .int .i64 p.m] 30 false) := by subst eA; exact T.get_upd_same _ _ _
    have nA : hA.nx = h1.nx + 1 := by subst eA; rfl
    have lA : hA.lo = h1.lo := by subst eA; rfl
    rw [← eA]
    clear eA
    refine anc_w p.t p.r hA _ (by omega) ?_
    intro u h2 hu _ hle2
    have n2 := hle2.nx
    have l2 := hle2.lo
    have hlA := anc_len p.t p.r
    have hall2 := (hle1.trans hleA).trans hle2
    simp (disch := first | omega | (simp only [Wx]; done) | (simp only [Wy]; done) | (simp only [Wv]; omega) | with_unfolding_all rfl) only [Wz, ptrTo, sliceTo, hu.len]
    refine ⟨fun n l h3 => Le h2 h3 ∧ ∃ k : Nat, slot l 14 = .int .i64 (k : Int) ∧ k ≤ (anc p.t p.r).length ∧ n = (anc p.t p.r).length - k ∧ ((anc p.t p.r).take k).all (fun a => cov (modeOf L a.1 a.2) (parM p.m)) = true, ⟨_, Le.refl _, 0, rfl, Nat.zero_le _, rfl, rfl⟩, ?_⟩
    rintro n l3 h3 ⟨hle3, k, s3, hk3, rfl, hw3⟩
    have n3 := hle3.nx
    have l3' := hle3.lo
    have hall3 := hall2.trans hle3
    by_cases hlt3 : k < (anc p.t p.r).length
    · obtain ⟨a, ha⟩ : ∃ a, (anc p.t p.r)[k]? = some a := ⟨_, List.getElem?_eq_getElem hlt3⟩
      obtain ⟨b3, o3, hb3, hat3, hld3⟩ := ld2 (hu.le hle3) k ha
      have g3 := (hle3.get h1.nx (by omega)).trans ((hle2.get h1.nx (by omega)).trans gA)
      simp (disch := first | omega | (simp only [Wx]; done) | (simp only [Wy]; done) | (simp only [Wv]; omega) | with_unfolding_all rfl) only [Wz, ptrTo, sliceTo, s3, rs_45_0, hat3, hld3, enc2, g3]
      obtain ⟨hB, eB⟩ : ∃ hB : Heap, hB = ⟨h3.nx + 1, h3.bl.upd h3.nx (cellsO [.int .i64 a.1, .int .i64 a.2] 27 false), h3.lo⟩ := ⟨_, rfl⟩
      have hleB : Le h3 hB := by subst eB; exact (Le.refl h3).new _
      have lB : hB.lo = h3.lo := by subst eB; rfl
      have nB : hB.nx = h3.nx + 1 := by subst eB; rfl
      rw [← eB]
      clear eB
      refine mode_w L a.1 a.2 hB v _ (hv.le (hall3.trans hleB)) (by omega) (by omega) ?_
      intro h4 hle4
      have g4 := (hle4.get h1.nx (by omega)).trans ((hleB.get h1.nx (by omega)).trans g3)
      simp (disch := first | omega | (simp only [Wx]; done) | (simp only [Wy]; done) | (simp only [Wv]; omega) | with_unfolding_all rfl) only [Wz, ptrTo, sliceTo, g4]
      refine parent_w _ ?_
      refine covers_w _ _ ?_
      have hall4 := (hall3.trans hleB).trans hle4
      have htk : ((anc p.t p.r).take (k + 1)).all (fun a => cov (modeOf L a.1 a.2) (parM p.m)) = cov (modeOf L a.1 a.2) (parM p.m) := by
        have e : (anc p.t p.r)[k] = a := by rw [List.getElem?_eq_getElem hlt3] at ha; exact Option.some.inj ha
        rw [List.take_succ_eq_append_getElem hlt3, List.all_append, hw3, e]; simp
      cases hc : cov (modeOf L a.1 a.2) (parM p.m) with
      | true =>
        simp (disch := first | omega | (simp only [Wx]; done) | (simp only [Wy]; done) | (simp only [Wv]; omega) | with_unfolding_all rfl) only [Wz, ptrTo, sliceTo, s3]
        exact ⟨_, by omega, (hleB.trans hle4 |> hle3.trans), k + 1, rfl, by omega, rfl, by rw [htk]; exact hc⟩
      | false =>
        simp (disch := first | omega | (simp only [Wx]; done) | (simp only [Wy]; done) | (simp only [Wv]; omega) | with_unfolding_all rfl) only [Wz, ptrTo, sliceTo]
        have hwf : wholeF (modeOf L) L = false := by
          rw [wholeF, List.all_eq_false]
          refine ⟨p, List.mem_of_getElem? hp, ?_⟩
          rw [Bool.not_eq_true, List.all_eq_false]
          exact ⟨a, List.mem_of_getElem? ha, by rw [hc]; simp⟩
        have := hk h4 hall4
        rwa [hwf] at this
    · simp (disch := first | omega | (simp only [Wx]; done) | (simp only [Wy]; done) | (simp only [Wv]; omega) | with_unfolding_all rfl) only [Wz, ptrTo, sliceTo, s3, s1]
      refine ⟨_, by omega, hall3, i + 1, rfl, by omega, rfl, ?_⟩
      have e : L[i] = p := by rw [List.getElem?_eq_getElem hlt] at hp; exact Option.some.inj hp
      have hk4 : k = (anc p.t p.r).length := by omega
      rw [hk4, List.take_length] at hw3
      unfold wholeF at hw ⊢
      rw [List.take_succ_eq_append_getElem hlt, List.all_append, hw, e]
      simp only [List.all_cons, List.all_nil, Bool.and_true, Bool.true_and]
      exact hw3
  · simp (disch := first | omega | (simp only [Wx]; done) | (simp only [Wy]; done) | (simp only [Wv]; omega) | with_unfolding_all rfl) only [Wz, ptrTo, sliceTo, s1]
    have hiL : i = L.length := by omega
    rw [hiL, List.take_length] at hw
    have := hk h1 hle1
    rwa [hw] at this

/-! ## what a lock needs -/
abbrev N3 := Int × Int × Int
def enc3 (p : N3) : List Value := [.int .i64 p.1, .int .i64 p.2.1, .int .i64 p.2.2]
theorem enc3_len (p : N3) : (enc3 p).length = 3 := rfl
theorem enc3_one (p : N3) : (enc3 p).all oneC = true := rfl
def upN (f : Int → Int → Int) (m : Int) (A : List N2) : List N3 := (A.filter fun a => !cov (f a.1 a.2) (parM m)).map fun a => (a.1, a.2, supM (f a.1 a.2) (parM m))
def planF (f : Int → Int → Int) (t r m : Int) : List N3 := if impF f t r m = true then [] else upN f m (anc t r) ++ [(t, r, supM (f t r) m)]
theorem upN_succ {f : Int → Int → Int} {m : Int} {A : List N2} {k : Nat} {a : N2} (ha : A[k]? = some a) : upN f m (A.take (k + 1)) = upN f m (A.take k) ++ if cov (f a.1 a.2) (parM m) = true then [] else [(a.1, a.2, supM (f a.1 a.2) (parM m))] := by
  obtain ⟨hj, rfl⟩ := List.getElem?_eq_some_iff.1 ha
  unfold upN
  rw [List.take_succ_eq_append_getElem hj, List.filter_append, List.map_append]
  cases h : cov (f A[k].1 A[k].2) (parM m) <;> simp [h]
theorem upN_len (f : Int → Int → Int) (m : Int) (A : List N2) : (upN f m A).length ≤ A.length := by
  unfold upN; rw [List.length_map]; exact List.length_filter_le _ _
/-- cache.Plan -/
theorem plan_w (L : List H4) (t r m : Int) (h : Heap) (v : Value) (κ : Value → Heap → Prop) (hv : Sl enc4 h v L) (hlen : L.length ≤ 100000) (hlo : h.lo ≤ h.nx) (hk : ∀ v' h', Sl enc3 h' v' (planF (modeOf L) t r m) → veq 8 v' v' = true → Le h h' → κ v' h') :
    CallW Try.prog 41 [v, nmV t r, .int .i64 m] h κ := by
  refine callW_of mixed ?_
  rw [rs_41]
  simp (disch := first | omega | (simp only [Wx]; done) | (simp only [Wy]; done) | (simp only [Wv]; omega) | with_unfolding_all rfl) only [Wz, ptrTo, sliceTo, nmV]
  obtain ⟨hA, eA⟩ : ∃ hA : Heap, hA = ⟨h.nx + 1, h.bl.upd h.nx (cellsO [.int .i64 t, .int .i64 r] 27 false), h.lo⟩ := ⟨_, rfl⟩
  have hleA : Le h hA := by subst eA; exact (Le.refl h).new _
  have gA : hA.bl.get h.nx = some (cellsO [.int .i64 t, .int .i64 r] 27 false) := by subst eA; exact T.get_upd_same _ _ _
  have nA : hA.nx = h.nx + 1 := by subst eA; rfl
  have lA : hA.lo = h.lo := by subst eA; rfl
  rw [← eA]
  clear eA
  refine implied_w L t r m hA v _ (hv.le hleA) hlen (by omega) ?_
  intro h2 hle2
  have n2 := hle2.nx
  have l2 := hle2.lo
  have g2 := (hle2.get h.nx (by omega)).trans gA
  have hall2 := hleA.trans hle2
  cases himp : impF (modeOf L) t r m with
  | true =>
    simp (disch := first | omega | (simp only [Wx]; done) | (simp only [Wy]; done) | (simp only [Wv]; omega) | with_unfolding_all rfl) only [Wz, ptrTo, sliceTo]
    exact hk _ _ ⟨none, 0, by simp [planF, himp], fun hn => by simp [planF, himp] at hn⟩ (veq_sln _ _) hall2
  | false =>
    simp (disch := first | omega | (simp only [Wx]; done) | (simp only [Wy]; done) | (simp only [Wv]; omega) | with_unfolding_all rfl) only [Wz, ptrTo, sliceTo]
    refine parent_w m ?_
    simp (disch := first | omega | (simp only [Wx]; done) | (simp only [Wy]; done) | (simp only [Wv]; omega) | with_unfolding_all rfl) only [Wz, ptrTo, sliceTo, g2]
    refine anc_w t r h2 _ (by omega) ?_
    intro u h3 hu _ hle3
    have n3 := hle3.nx
    have l3 := hle3.lo
    have hlA := anc_len t r
    have hall3 := hall2.trans hle3
    simp (disch := first | omega | (simp only [Wx]; done) | (simp only [Wy]; done) | (simp only [Wv]; omega) | with_unfolding_all rfl) only [Wz, ptrTo, sliceTo, hu.len]
    refine ⟨fun n l h4 => Le h3 h4 ∧ ∃ k : Nat, slot l 22 = .int .i64 (k : Int) ∧ k ≤ (anc t r).length ∧ n = (anc t r).length - k ∧ Own enc3 h3 70 h4 (slot l 20) (upN (modeOf L) m ((anc t r).take k)), ⟨_, Le.refl _, 0, rfl, Nat.zero_le _, rfl, .inl ⟨rfl, .inl rfl⟩⟩, ?_⟩
    rintro n l h4 ⟨hle4, k, s4, hk4, rfl, ho4⟩
    have n4 := hle4.nx
    have l4 := hle4.lo
    have hall4 := hall3.trans hle4
    have hu4 := upN_len (modeOf L) m ((anc t r).take k)
    rw [List.length_take] at hu4
    by_cases hlt : k < (anc t r).length
    · obtain ⟨a, ha⟩ : ∃ a, (anc t r)[k]? = some a := ⟨_, List.getElem?_eq_getElem hlt⟩
      obtain ⟨b, o, hb, hat, hld⟩ := ld2 (hu.le hle4) k ha
      simp (disch := first | omega | (simp only [Wx]; done) | (simp only [Wy]; done) | (simp only [Wv]; omega) | with_unfolding_all rfl) only [Wz, ptrTo, sliceTo, rs_41_3, s4]
      refine ⟨fun l12 h5 => Le h3 h5 ∧ Own enc3 h3 70 h5 (slot l12 19) (upN (modeOf L) m ((anc t r).take (k + 1))), ?_, ?_⟩
      · simp (disch := first | omega | (simp only [Wx]; done) | (simp only [Wy]; done) | (simp only [Wv]; omega) | with_unfolding_all rfl) only [Wz, ptrTo, sliceTo, rs_41_1, s4, hat, hld, enc2]
        obtain ⟨hB, eB⟩ : ∃ hB : Heap, hB = ⟨h4.nx + 1, h4.bl.upd h4.nx (cellsO [.int .i64 a.1, .int .i64 a.2] 27 false), h4.lo⟩ := ⟨_, rfl⟩
        have hleB : Le h4 hB := by subst eB; exact (Le.refl h4).new _
        have gB : hB.bl.get h4.nx = some (cellsO [.int .i64 a.1, .int .i64 a.2] 27 false) := by subst eB; exact T.get_upd_same _ _ _
        have lB : hB.lo = h4.lo := by subst eB; rfl
        have nB : hB.nx = h4.nx + 1 := by subst eB; rfl
        rw [← eB]
        clear eB
        refine mode_w L a.1 a.2 hB v _ (hv.le (hall4.trans hleB)) (by omega) (by omega) ?_
        intro h5 hle5
        have n5 := hle5.nx
        have l5 := hle5.lo
        have g5 := (hle5.get h4.nx (by omega)).trans gB
        have hall5 := (hle4.trans hleB).trans hle5
        refine covers_w _ _ ?_
        have ho5 := (ho4.le hleB).le hle5
        cases hc : cov (modeOf L a.1 a.2) (parM m) with
        | true =>
          simp (disch := first | omega | (simp only [Wx]; done) | (simp only [Wy]; done) | (simp only [Wv]; omega) | with_unfolding_all rfl) only [Wz, ptrTo, sliceTo]
          refine ⟨hall5, ?_⟩
          rw [upN_succ ha, if_pos hc, List.append_nil]
          exact ho5
        | false =>
          simp (disch := first | omega | (simp only [Wx]; done) | (simp only [Wy]; done) | (simp only [Wv]; omega) | with_unfolding_all rfl) only [Wz, ptrTo, sliceTo, rs_41_0, g5]
          refine sup_w _ _ ?_
          simp (disch := first | omega | (simp only [Wx]; done) | (simp only [Wy]; done) | (simp only [Wv]; omega) | with_unfolding_all rfl) only [Wz, ptrTo, sliceTo, g5, ho5.same]
          have hle6 := (Le.refl h5).new (cellsO [.int .i64 a.1, .int .i64 a.2, .int .i64 (supM (modeOf L a.1 a.2) (parM m))] 70 false)
          refine append_own (enc := enc3) (a := h3) (L := upN (modeOf L) m ((anc t r).take k)) (M := [(a.1, a.2, supM (modeOf L a.1 a.2) (parM m))]) enc3_len enc3_one (by omega) (by omega) (ho5.le hle6) ⟨_, 1, rfl, fun _ => ⟨h5.nx, 0, rfl, Nat.lt_succ_self _, by show Has ((T.upd _ _ _).get _) 0 _; rw [T.get_upd_same]; exact Has.all⟩⟩ (hall5.trans hle6)
            (by simp; omega) (by show h5.lo ≤ h5.nx + 1; omega) _ ?_
          intro v' h' ho' hl' _ _
          refine ⟨hl', ?_⟩
          rw [upN_succ ha, hc, if_neg (by simp)]
          exact ho'
      · rintro l12 h5 ⟨hl5, ho5⟩
        exact ⟨_, by omega, hl5, k + 1, rfl, by omega, rfl, ho5⟩
    · have hkk : k = (anc t r).length := by omega
      subst hkk
      rw [List.take_length] at ho4 hu4
      have g4 := (hle4.get h.nx (by omega)).trans ((hle3.get h.nx (by omega)).trans g2)
      simp (disch := first | omega | (simp only [Wx]; done) | (simp only [Wy]; done) | (simp only [Wv]; omega) | with_unfolding_all rfl) only [Wz, ptrTo, sliceTo, rs_41_3, s4, rs_41_2, g4]
      refine mode_w L t r h4 v _ (hv.le hall4) (by omega) (by omega) ?_
      intro h5 hle5
      have n5 := hle5.nx
      have l5 := hle5.lo
      have g5 := (hle5.get h.nx (by omega)).trans g4
      have ho5 := ho4.le hle5
      have hall5 := hle4.trans hle5
      simp (disch := first | omega | (simp only [Wx]; done) | (simp only [Wy]; done) | (simp only [Wv]; omega) | with_unfolding_all rfl) only [Wz, ptrTo, sliceTo, g5, ho5.same]
      refine sup_w _ _ ?_
      simp (disch := first | omega | (simp only [Wx]; done) | (simp only [Wy]; done) | (simp only [Wv]; omega) | with_unfolding_all rfl) only [Wz, ptrTo, sliceTo, g5, ho5.same]
      have hle6 := (Le.refl h5).new (cellsO [.int .i64 t, .int .i64 r, .int .i64 (supM (modeOf L t r) m)] 70 false)
      refine append_own (enc := enc3) (a := h3) (L := upN (modeOf L) m (anc t r)) (M := [(t, r, supM (modeOf L t r) m)]) enc3_len enc3_one (by omega) (by omega) (ho5.le hle6) ⟨_, 1, rfl, fun _ => ⟨h5.nx, 0, rfl, Nat.lt_succ_self _, by show Has ((T.upd _ _ _).get _) 0 _; rw [T.get_upd_same]; exact Has.all⟩⟩ (hall5.trans hle6)
        (by simp; omega) (by show h5.lo ≤ h5.nx + 1; omega) _ ?_
      intro v' h' ho' hl' _ _
      have e : planF (modeOf L) t r m = upN (modeOf L) m (anc t r) ++ [(t, r, supM (modeOf L t r) m)] := by rw [planF, himp]; simp
      rw [← e] at ho'
      exact hk v' h' ho'.sl ho'.same (hall3.trans hl')
end Go.Proofs

/-! The plain law of plans: what is had grows step by step, and stays complete. -/
namespace Go.Proofs
open Go.Clashes

theorem kn_nat {a : Int} (h : kn a = true) : ∃ i : Nat, i < 7 ∧ a = (i : Int) := by
  unfold kn at h
  rw [Bool.and_eq_true, decide_eq_true_eq, decide_eq_true_eq] at h
  exact ⟨a.toNat, by omega, by omega⟩
theorem md_trans : ∀ i, i < 7 → ∀ j, j < 7 → ∀ k, k < 7 → cov (i : Nat) (j : Nat) = true → cov (j : Nat) (k : Nat) = true → cov (i : Nat) (k : Nat) = true := by decide +kernel
theorem cov_trans {a b c : Int} (h1 : cov a b = true) (h2 : cov b c = true) : cov a c = true := by
  obtain ⟨i, hi, rfl⟩ := kn_nat (cov_kn h1).1
  obtain ⟨j, hj, rfl⟩ := kn_nat (cov_kn h1).2
  obtain ⟨k, hk, rfl⟩ := kn_nat (cov_kn h2).2
  exact md_trans i hi j hj k hk h1 h2
theorem md_refl : ∀ i, i < 7 → cov (i : Nat) (i : Nat) = true := by decide +kernel
theorem cov_refl {a : Int} (h : kn a = true) : cov a a = true := by
  obtain ⟨i, hi, rfl⟩ := kn_nat h
  exact md_refl i hi
theorem md_zero : ∀ i, i < 7 → cov (i : Nat) 0 = true := by decide +kernel
theorem cov_zero {a : Int} (h : kn a = true) : cov a 0 = true := by
  obtain ⟨i, hi, rfl⟩ := kn_nat h
  exact md_zero i hi
theorem md_par : ∀ i, i < 7 → ∀ j, j < 7 → ∀ k, k < 7 → cov (i : Nat) (parM (j : Nat)) = true → cov (i : Nat) (parM (k : Nat)) = true → cov (i : Nat) (parM (supM (j : Nat) (k : Nat))) = true := by decide +kernel
theorem cov_par {d a b : Int} (ha : kn a = true) (hb : kn b = true) (h1 : cov d (parM a) = true) (h2 : cov d (parM b) = true) : cov d (parM (supM a b)) = true := by
  obtain ⟨i, hi, rfl⟩ := kn_nat (cov_kn h1).1
  obtain ⟨j, hj, rfl⟩ := kn_nat ha
  obtain ⟨k, hk, rfl⟩ := kn_nat hb
  exact md_par i hi j hj k hk h1 h2
theorem md_sup : ∀ i, i < 7 → ∀ j, j < 7 → (cov (i : Nat) (supM (i : Nat) (j : Nat)) = true → cov (i : Nat) (j : Nat) = true) ∧ cov (supM (i : Nat) (j : Nat)) (i : Nat) = true ∧ cov (supM (i : Nat) (j : Nat)) (j : Nat) = true ∧ (j ≠ 0 → supM (i : Nat) (j : Nat) ≠ 0) := by decide +kernel
theorem sup_of {a b : Int} (ha : kn a = true) (hb : kn b = true) : (cov a (supM a b) = true → cov a b = true) ∧ cov (supM a b) a = true ∧ cov (supM a b) b = true ∧ (b ≠ 0 → supM a b ≠ 0) := by
  obtain ⟨i, hi, rfl⟩ := kn_nat ha
  obtain ⟨j, hj, rfl⟩ := kn_nat hb
  obtain ⟨h1, h2, h3, h4⟩ := md_sup i hi j hj
  exact ⟨h1, h2, h3, fun h => h4 (by intro e; exact h (by rw [e]; rfl))⟩
theorem md_pp : ∀ i, i < 7 → parM (parM (i : Nat)) = parM (i : Nat) ∧ kn (parM (i : Nat)) = true ∧ (i ≠ 0 → parM (i : Nat) ≠ 0) := by decide +kernel
theorem par_of {a : Int} (ha : kn a = true) : parM (parM a) = parM a ∧ kn (parM a) = true ∧ (a ≠ 0 → parM a ≠ 0) := by
  obtain ⟨i, hi, rfl⟩ := kn_nat ha
  obtain ⟨h1, h2, h3⟩ := md_pp i hi
  exact ⟨h1, h2, fun h => h3 (by intro e; exact h (by rw [e]; rfl))⟩
theorem md_lets : ∀ i, i < 7 → ∀ j, j < 7 → ∀ k, k < 7 → letsM (i : Nat) (k : Nat) = true → cov (j : Nat) (i : Nat) = true → letsM (j : Nat) (k : Nat) = true := by decide +kernel
theorem lets_up {a b m : Int} (hm : kn m = true) (h1 : letsM a m = true) (h2 : cov b a = true) : letsM b m = true := by
  obtain ⟨i, hi, rfl⟩ := kn_nat (cov_kn h2).2
  obtain ⟨j, hj, rfl⟩ := kn_nat (cov_kn h2).1
  obtain ⟨k, hk, rfl⟩ := kn_nat hm
  exact md_lets i hi j hj k hk h1 h2

def KF (f : Int → Int → Int) : Prop := ∀ t r, kn (f t r) = true
def WF (f : Int → Int → Int) : Prop := ∀ t r, ∀ a ∈ anc t r, cov (f a.1 a.2) (parM (f t r)) = true
def GE (f g : Int → Int → Int) : Prop := ∀ t r, cov (g t r) (f t r) = true
def upF (f : Int → Int → Int) (t r m : Int) : Int → Int → Int := fun t' r' => if t' = t ∧ r' = r then m else f t' r'
theorem upF_same (f : Int → Int → Int) (t r m : Int) : upF f t r m t r = m := if_pos ⟨rfl, rfl⟩
theorem upF_ne {f : Int → Int → Int} {t r m t' r' : Int} (h : ¬ (t' = t ∧ r' = r)) : upF f t r m t' r' = f t' r' := if_neg h
theorem GE.refl {f : Int → Int → Int} (h : KF f) : GE f f := fun t r => cov_refl (h t r)
theorem GE.trans {f g k : Int → Int → Int} (h1 : GE f g) (h2 : GE g k) : GE f k := fun t r => cov_trans (h2 t r) (h1 t r)
theorem GE.imp {f g : Int → Int → Int} (h : GE f g) {t r m : Int} (hi : impF f t r m = true) : impF g t r m = true := by
  unfold impF at hi ⊢
  cases ha : askM t r m with
  | false => simp
  | true =>
    have hm : kn m = true := by simp only [askM, Bool.and_eq_true] at ha; exact ha.1.2
    rw [ha] at hi
    simp only [Bool.not_true, Bool.false_or, Bool.or_eq_true] at hi ⊢
    rcases hi with hi | hi
    · exact .inl (cov_trans (h t r) hi)
    · obtain ⟨a, h1, h2⟩ := List.any_eq_true.1 hi
      exact .inr (List.any_eq_true.2 ⟨a, h1, lets_up hm h2 (h a.1 a.2)⟩)
structure StepOk (f : Int → Int → Int) (p : N3) : Prop where
  ok : okN p.1 p.2.1 = true
  kn : kn p.2.2 = true
  ne : p.2.2 ≠ 0
  up : cov p.2.2 (f p.1 p.2.1) = true
  new : cov (f p.1 p.2.1) p.2.2 = false
  an : ∀ a ∈ anc p.1 p.2.1, cov (f a.1 a.2) (parM p.2.2) = true
theorem step_up {f : Int → Int → Int} {p : N3} (hK : KF f) (hW : WF f) (s : StepOk f p) : KF (upF f p.1 p.2.1 p.2.2) ∧ WF (upF f p.1 p.2.1 p.2.2) ∧ GE f (upF f p.1 p.2.1 p.2.2) := by
  have hG : GE f (upF f p.1 p.2.1 p.2.2) := by
    intro t r
    by_cases h : t = p.1 ∧ r = p.2.1
    · obtain ⟨rfl, rfl⟩ := h
      rw [upF_same]; exact s.up
    · rw [upF_ne h]; exact cov_refl (hK t r)
  refine ⟨fun t r => (cov_kn (hG t r)).1, fun t r a ha => ?_, hG⟩
  by_cases h : t = p.1 ∧ r = p.2.1
  · obtain ⟨rfl, rfl⟩ := h
    rw [upF_same]
    exact cov_trans (hG a.1 a.2) (s.an a ha)
  · rw [upF_ne h]
    exact cov_trans (hG a.1 a.2) (hW t r a ha)
def Chain : (Int → Int → Int) → List N3 → Prop
  | _, [] => True
  | f, p :: P => StepOk f p ∧ Chain (upF f p.1 p.2.1 p.2.2) P
def endF : (Int → Int → Int) → List N3 → Int → Int → Int
  | f, [] => f
  | f, p :: P => endF (upF f p.1 p.2.1 p.2.2) P
theorem chain_end : ∀ {P : List N3} {f : Int → Int → Int}, KF f → WF f → Chain f P → KF (endF f P) ∧ WF (endF f P) ∧ GE f (endF f P) := by
  intro P
  induction P with
  | nil => intro f hK hW _; exact ⟨hK, hW, GE.refl hK⟩
  | cons p P ih =>
    intro f hK hW hc
    obtain ⟨k1, k2, k3⟩ := step_up hK hW hc.1
    obtain ⟨j1, j2, j3⟩ := ih k1 k2 hc.2
    exact ⟨j1, j2, k3.trans j3⟩
theorem raise {f : Int → Int → Int} (hK : KF f) (hW : WF f) {t r m : Int} (ok : okN t r = true) (hm : kn m = true) (h0 : m ≠ 0) (ha : ∀ a ∈ anc t r, cov (f a.1 a.2) (parM m) = true) :
    ∃ g, KF g ∧ WF g ∧ GE f g ∧ cov (g t r) m = true ∧ (∀ t' r', ¬ (t' = t ∧ r' = r) → g t' r' = f t' r') ∧
      ∀ Q, (Chain g Q → Chain f ((if cov (f t r) m = true then [] else [(t, r, supM (f t r) m)]) ++ Q)) ∧ endF f ((if cov (f t r) m = true then [] else [(t, r, supM (f t r) m)]) ++ Q) = endF g Q := by
  by_cases hc : cov (f t r) m = true
  · refine ⟨f, hK, hW, GE.refl hK, hc, fun _ _ _ => rfl, fun Q => ?_⟩
    rw [if_pos hc]
    exact ⟨id, rfl⟩
  · obtain ⟨s1, s2, s3, s4⟩ := sup_of (hK t r) hm
    have s : StepOk f (t, r, supM (f t r) m) := ⟨ok, (cov_kn s2).1, s4 h0, s2, by
      cases h : cov (f t r) (supM (f t r) m) with
      | false => rfl
      | true => exact absurd (s1 h) hc, fun a h => cov_par (hK t r) hm (hW t r a h) (ha a h)⟩
    obtain ⟨k1, k2, k3⟩ := step_up hK hW s
    refine ⟨_, k1, k2, k3, ?_, fun t' r' h => upF_ne h, fun Q => ?_⟩
    · show cov (upF f t r (supM (f t r) m) t r) m = true
      rw [upF_same]; exact s3
    · rw [if_neg hc]
      exact ⟨fun h => ⟨s, h⟩, rfl⟩
theorem upN_cons (f : Int → Int → Int) (m : Int) (a : N2) (A : List N2) : upN f m (a :: A) = (if cov (f a.1 a.2) (parM m) = true then [] else [(a.1, a.2, supM (f a.1 a.2) (parM m))]) ++ upN f m A := by
  unfold upN
  cases h : cov (f a.1 a.2) (parM m) <;> simp [h]
theorem anc_db : anc (-1) (-1) = [] := rfl
theorem plan_ok {f : Int → Int → Int} (hK : KF f) (hW : WF f) (t r m : Int) : Chain f (planF f t r m) ∧ impF (endF f (planF f t r m)) t r m = true := by
  unfold planF
  cases hi : impF f t r m with
  | true => rw [if_pos rfl]; exact ⟨trivial, hi⟩
  | false =>
    rw [if_neg (by simp)]
    simp only [impF, Bool.or_eq_false_iff, Bool.not_eq_false'] at hi
    obtain ⟨⟨hask, hcov⟩, _⟩ := hi
    have hask' := hask
    simp only [askM, Bool.and_eq_true, decide_eq_true_eq] at hask'
    obtain ⟨⟨hok, hm⟩, h0⟩ := hask'
    obtain ⟨pp, pk, p0⟩ := par_of hm
    have done : ∀ g, GE f g → (∀ Q, (Chain g Q → Chain f (upN f m (anc t r) ++ Q)) ∧ endF f (upN f m (anc t r) ++ Q) = endF g Q) → KF g → WF g → g t r = f t r → (∀ a ∈ anc t r, cov (g a.1 a.2) (parM m) = true) →
        Chain f (upN f m (anc t r) ++ [(t, r, supM (f t r) m)]) ∧ impF (endF f (upN f m (anc t r) ++ [(t, r, supM (f t r) m)])) t r m = true := by
      intro g hG hQ gK gW hg ha
      obtain ⟨k, k1, k2, k3, k4, _, k5⟩ := raise gK gW hok hm h0 ha
      have k6 := k5 []
      rw [hg, if_neg (by rw [hcov]; simp)] at k6
      simp only [List.append_nil] at k6
      refine ⟨(hQ _).1 (k6.1 trivial), ?_⟩
      rw [(hQ _).2, k6.2]
      show impF k t r m = true
      simp [impF, k4]
    rcases lvl_cases t r with h1 | h1 | h1 | h1
    · rw [okN, h1] at hok; cases hok
    · have e : anc t r = [] := by simp [anc, h1]
      refine done f (GE.refl hK) ?_ hK hW rfl (by rw [e]; simp)
      rw [e]
      exact fun Q => ⟨id, rfl⟩
    · have e : anc t r = [(-1, -1)] := by simp [anc, h1]
      have hne : ¬ (t = -1 ∧ r = -1) := by
        rintro ⟨rfl, rfl⟩; revert h1; decide
      obtain ⟨g, g1, g2, g3, g4, g5, g6⟩ := raise hK hW (t := -1) (r := -1) (m := parM m) rfl pk (p0 h0) (by rw [anc_db]; simp)
      refine done g g3 ?_ g1 g2 (g5 _ _ hne) (by rw [e]; simpa using g4)
      rw [e, upN_cons]
      simpa [upN] using g6
    · have e : anc t r = [(-1, -1), (t, -1)] := by simp [anc, h1]
      have hw : 0 ≤ t ∧ 0 ≤ r ∧ within t = true := by
        unfold lvl at h1
        split at h1
        · cases h1
        · split at h1
          · cases h1
          · split at h1
            · rename_i h2
              have := h2.1
              have := h2.2
              unfold within at *
              simp only [Bool.and_eq_true, decide_eq_true_eq] at *
              omega
            · cases h1
      obtain ⟨w1, w2, w3⟩ := hw
      have l1 : lvl t (-1) = 1 := by
        unfold lvl; rw [if_neg (by omega), if_pos ⟨w3, rfl⟩]
      have e1 : anc t (-1) = [(-1, -1)] := by simp [anc, l1]
      obtain ⟨g, g1, g2, g3, g4, g5, g6⟩ := raise hK hW (t := -1) (r := -1) (m := parM m) rfl pk (p0 h0) (by rw [anc_db]; simp)
      obtain ⟨k, k1, k2, k3, k4, k5, k6⟩ := raise g1 g2 (t := t) (r := -1) (m := parM m) (by simp [okN, l1]) pk (p0 h0) (by rw [e1, pp]; simpa using g4)
      have q1 : g t (-1) = f t (-1) := g5 _ _ (by omega)
      rw [q1] at k6
      refine done k (g3.trans k3) ?_ k1 k2 ?_ ?_
      · rw [e, upN_cons, upN_cons]
        intro Q
        have a1 := g6 ((if cov (f t (-1)) (parM m) = true then [] else [(t, -1, supM (f t (-1)) (parM m))]) ++ Q)
        have a2 := k6 Q
        simp only [upN, List.filter_nil, List.map_nil, List.append_nil, List.append_assoc]
        exact ⟨fun h => a1.1 (a2.1 h), a1.2.trans a2.2⟩
      · rw [k5 _ _ (by omega), g5 _ _ (by omega)]
      · rw [e]
        intro a ha
        simp only [List.mem_cons, List.not_mem_nil, or_false] at ha
        rcases ha with rfl | rfl
        · exact cov_trans (k3 _ _) g4
        · exact k4
theorem planF_len (f : Int → Int → Int) (t r m : Int) : (planF f t r m).length ≤ 3 := by
  unfold planF
  split
  · simp
  · have h1 := upN_len f m (anc t r)
    have h2 := anc_len t r
    rw [List.length_append]; simp only [List.length_cons, List.length_nil]; omega
theorem planF_imp {f : Int → Int → Int} {t r m : Int} (h : impF f t r m = true) : planF f t r m = [] := if_pos h
/-- what is had -/
structure St (H : List H4) : Prop where
  sorted : H.Pairwise ltN
  ok : ∀ p ∈ H, okN p.t p.r = true ∧ kn p.m = true ∧ p.m ≠ 0 ∧ p.x = 1
theorem St.nil : St [] := ⟨List.Pairwise.nil, fun p hp => (by cases hp)⟩
theorem St.kf {H : List H4} (s : St H) : KF (modeOf H) := by
  intro t r
  rcases modeOf_cases H t r with ⟨p, hp, rfl, rfl⟩ | h
  · rw [modeOf_mem s.sorted hp]; exact (s.ok p hp).2.1
  · rw [modeOf_none h]; rfl
theorem St.whole {H : List H4} (s : St H) (hW : WF (modeOf H)) : wholeF (modeOf H) H = true := by
  unfold wholeF
  rw [List.all_eq_true]
  intro p hp
  rw [List.all_eq_true]
  intro a ha
  have := hW p.t p.r a ha
  rwa [modeOf_mem s.sorted hp] at this
theorem modeOf_nil : modeOf [] = fun _ _ => 0 := rfl
theorem wf_nil : WF (modeOf []) := by
  intro t r a ha
  rw [modeOf_nil]; rfl
def keyK (p : H4) : Int × Int := (p.t, p.r)
theorem sorted_key {L M : List H4} (e : L.map keyK = M.map keyK) (h : L.Pairwise ltN) : M.Pairwise ltN := by
  have key : ∀ K : List H4, K.Pairwise ltN ↔ (K.map keyK).Pairwise fun a b => a.1 < b.1 ∨ (a.1 = b.1 ∧ a.2 < b.2) := by
    intro K; rw [List.pairwise_map]; rfl
  rw [key] at h ⊢
  rwa [← e]
theorem putH_mem {H : List H4} {p x : H4} (h : x ∈ putH H p) : x = p ∨ x ∈ H := by
  unfold putH at h
  split at h
  · exact (List.mem_or_eq_of_mem_set h).symm
  · split at h
    · simp only [List.mem_append, List.mem_singleton] at h
      rcases h with (h | h) | h
      · exact .inr (List.mem_of_mem_take h)
      · exact .inl h
      · exact .inr (List.mem_of_mem_drop h)
    · simp only [List.mem_append, List.mem_singleton] at h
      exact h.symm
theorem St.put {H : List H4} (s : St H) {t r m : Int} (ok : okN t r = true) (hm : kn m = true) (h0 : m ≠ 0) :
    St (putH H ⟨1, t, r, m⟩) ∧ (putH H ⟨1, t, r, m⟩).length ≤ H.length + 1 ∧ modeOf (putH H ⟨1, t, r, m⟩) = upF (modeOf H) t r m ∧ putH H ⟨1, t, r, m⟩ ≠ [] := by
  have key : (putH H ⟨1, t, r, m⟩).Pairwise ltN ∧ (putH H ⟨1, t, r, m⟩).length ≤ H.length + 1 ∧ (⟨1, t, r, m⟩ : H4) ∈ putH H ⟨1, t, r, m⟩ ∧ ∀ x ∈ H, ¬ (x.t = t ∧ x.r = r) → x ∈ putH H ⟨1, t, r, m⟩ := by
    rcases modeOf_cases H t r with ⟨q, hq, q1, q2⟩ | ha
    · cases hf : H.findIdx? (named t r) with
      | none =>
        rw [List.findIdx?_eq_none_iff] at hf
        have := hf q hq
        rw [(named_iff t r q).2 ⟨q1, q2⟩] at this; cases this
      | some i =>
        have hp : putH H ⟨1, t, r, m⟩ = H.set i ⟨1, t, r, m⟩ := by unfold putH; simp only [hf]
        rw [List.findIdx?_eq_some_iff_getElem] at hf
        obtain ⟨hi, hn, _⟩ := hf
        have hn := (named_iff _ _ _).1 hn
        rw [hp]
        refine ⟨?_, by simp, List.mem_set hi _, fun x hx hne => ?_⟩
        · refine sorted_key ?_ s.sorted
          rw [List.map_set]
          have e : keyK ⟨1, t, r, m⟩ = (H.map keyK)[i]'(by simpa using hi) := by
            rw [List.getElem_map]; unfold keyK; rw [hn.1, hn.2]
          rw [e, List.set_getElem_self]
        · obtain ⟨j, hj, rfl⟩ := List.mem_iff_getElem.1 hx
          have hij : i ≠ j := by rintro rfl; exact hne hn
          have : (H.set i ⟨1, t, r, m⟩)[j]'(by simpa using hj) = H[j] := List.getElem_set_ne hij _
          rw [← this]
          exact List.getElem_mem _
    · rw [putH_new (p := ⟨1, t, r, m⟩) ha]
      exact ⟨ins_sorted s.sorted ha, by rw [len_ins]; exact Nat.le_refl _, mem_ins.2 (.inl rfl), fun x hx _ => mem_ins.2 (.inr hx)⟩
  obtain ⟨k1, k2, k3, k4⟩ := key
  refine ⟨⟨k1, fun p hp => ?_⟩, k2, ?_, fun e => by rw [e] at k3; cases k3⟩
  · rcases putH_mem hp with rfl | hp
    · exact ⟨ok, hm, h0, rfl⟩
    · exact s.ok p hp
  · funext t' r'
    by_cases h1 : t' = t ∧ r' = r
    · obtain ⟨rfl, rfl⟩ := h1
      rw [upF_same]
      exact modeOf_mem k1 k3
    · rw [upF_ne h1]
      rcases modeOf_cases H t' r' with ⟨p, hp, rfl, rfl⟩ | h2
      · rw [modeOf_mem s.sorted hp, modeOf_mem k1 (k4 p hp h1)]
      · rw [modeOf_none h2, modeOf_none]
        intro x hx
        rcases putH_mem hx with rfl | hx
        · exact fun e => h1 ⟨e.1.symm, e.2.symm⟩
        · exact h2 x hx
end Go.Proofs

namespace Go.Proofs
open Go.Vai Go.Clashes
theorem slN_same {α : Type} {enc : α → List Value} {h : Heap} {v : Value} {L : List α} (hs : Sl enc h v L) (hn : L ≠ []) : veq 8 v v = true := by
  obtain ⟨x, cap, rfl, h2⟩ := hs
  obtain ⟨b, o, rfl, _⟩ := h2 hn
  exact veq_sli _ _ _ _
theorem ne_of_get {α : Type} {L : List α} {i : Nat} {p : α} (h : L[i]? = some p) : L ≠ [] := by
  rintro rfl; simp at h
/-- a need in a slice: its address; how it is read -/
theorem ld3 {h : Heap} {v : Value} {L : List N3} (hs : Sl enc3 h v L) (i : Nat) {p : N3} (hp : L[i]? = some p) :
    ∃ b o, b < h.nx ∧ (∀ (β : Type) (fl : β) (h' : Heap) (κ : Value → Heap → β), indexAddrS fl 3 v (.int .i64 (i : Int)) h' κ = κ (.pointer (some ⟨b, o, none⟩)) h') ∧
      ((∀ (β : Type) (fl : β) (κ : List Value → β), ldA fl (h.bl.get b) o 3 κ = κ (enc3 p)) ∧
      (∀ (β : Type) (fl : β) (κ : List Value → β), ldA fl (h.bl.get b) o 2 κ = κ [.int .i64 p.1, .int .i64 p.2.1]) ∧
      (∀ (β : Type) (fl : β) (κ : Value → β), ldO fl (h.bl.get b) o κ = κ (.int .i64 p.1)) ∧
      (∀ (β : Type) (fl : β) (κ : Value → β), ldO fl (h.bl.get b) (o + 1) κ = κ (.int .i64 p.2.1)) ∧
      (∀ (β : Type) (fl : β) (κ : Value → β), ldO fl (h.bl.get b) (o + 2) κ = κ (.int .i64 p.2.2))) := by
  obtain ⟨b, o, h1, h2, h3, hh⟩ := hs.ld enc3_len i hp
  have h4 : (enc3 p).length = 3 := rfl
  refine ⟨b, o, h1, h2, h3, fun β fl κ => ldA_has (hh.sub 0 2 (by omega)) 2 κ rfl, fun β fl κ => ?_, fun β fl κ => ?_, fun β fl κ => ?_⟩
  · exact ldO_has (fl := fl) hh 0 κ (by omega)
  · exact ldO_has (fl := fl) hh 1 κ (by omega)
  · exact ldO_has (fl := fl) hh 2 κ (by omega)
theorem plans_put (l25 : List Value) (u : Value) (N24 : List Value → Heap → Prop) (v26 v27 v28 v29 v30 v31 v32 v34 v36 v38 v40 v42 v44 v46 v47 : Value) (h : Heap) (κ : Value → Heap → Prop) (P : List N3) (k : Nat) (p : N3) (K : List H4)
    (hu : Sl enc3 h u P) (hp : P[k]? = some p) (hk : k ≤ 100) (hs : slot l25 43 = .int .i64 (k : Int)) (hv : Sl enc4 h (slot l25 36) K) (hlen : K.length ≤ 1000) (hlo : h.lo ≤ h.nx) (hw : ∀ K', K' = putH K ⟨1, p.1, p.2.1, p.2.2⟩ → wholeF (modeOf K') K' = true ∧ K'.length ≤ 1001)
    (hN : ∀ l' h' v', slot l' 43 = .int .i64 ((k : Int) + 1) → slot l' 36 = v' → Sl enc4 h' v' (putH K ⟨1, p.1, p.2.1, p.2.2⟩) → Le h h' → N24 l' h') : rs_7_0 l25 u N24 v26 v27 v28 v29 v30 v31 v32 v34 v36 v38 v40 v42 v44 v46 v47 h κ := by
  obtain ⟨b, o, hb, hat, hld⟩ := ld3 hu k hp
  simp (disch := first | omega | (simp only [Wx]; done) | (simp only [Wy]; done) | (simp only [Wv]; omega) | with_unfolding_all rfl) only [Wz, ptrTo, sliceTo, rs_7_0, hs, hat, hld]
  refine put_w K ⟨1, p.1, p.2.1, p.2.2⟩ h _ _ hv (by omega) (by omega) ?_
  intro v' h' hv' hle
  obtain ⟨hw1, hw2⟩ := hw _ rfl
  have n := hle.nx
  have l := hle.lo
  refine whole_w _ h' v' _ hv' (by omega) (by omega) ?_
  intro h2 hle2
  simp (disch := first | omega | (simp only [Wx]; done) | (simp only [Wy]; done) | (simp only [Wv]; omega) | with_unfolding_all rfl) only [Wz, ptrTo, sliceTo, hw1, hs]
  exact hN _ _ v' rfl rfl (hv'.le hle2) (hle.trans hle2)
set_option maxHeartbeats 4000000 in
theorem cachePlans_law (L : List N2) (h : Heap) (v : Value) (hv : Sl enc2 h v L) (hlo : h.lo ≤ h.nx) : CallW Try.prog 7 [v] h IsTrue := by
  refine callW_of mixed ?_
  rw [rs_7]
  refine closedW mixed lives17 ?_
  by_cases hn : L.length > 30
  · simp (disch := first | omega | (simp only [Wx]; done) | (simp only [Wy]; done) | (simp only [Wv]; omega) | with_unfolding_all rfl) only [Wz, ptrTo, sliceTo, hv.len, rs_7_5]
    rfl
  simp (disch := first | omega | (simp only [Wx]; done) | (simp only [Wy]; done) | (simp only [Wv]; omega) | with_unfolding_all rfl) only [Wz, ptrTo, sliceTo, hv.len, rs_7_5]
  refine ⟨fun n l h1 => ∃ (i : Nat) (H : List H4), slot l 101 = .int .i64 (i : Int) ∧ i ≤ L.length ∧ n = L.length - i ∧ Le h h1 ∧ Sl enc4 h1 (slot l 59) H ∧ veq 8 (slot l 59) (slot l 59) = true ∧ St H ∧ WF (modeOf H) ∧ H.length ≤ 3 * i ∧
      ∀ (j : Nat) w, j < i → L[j]? = some w → impF (modeOf H) (nmF w.1).1 (nmF w.1).2 (mdF w.2) = true,
    ⟨_, 0, [], rfl, Nat.zero_le _, rfl, Le.refl _, Sl.nil _ _ _, veq_sln _ _, St.nil, wf_nil, Nat.zero_le _, by omega⟩, ?_⟩
  rintro n l h1 ⟨i, H, s1, hi, rfl, hle1, hv1, q1, st1, wf1, len1, im1⟩
  have n1 := hle1.nx
  have l1 := hle1.lo
  by_cases hlt : i < L.length
  · obtain ⟨w, hw⟩ : ∃ w, L[i]? = some w := ⟨_, List.getElem?_eq_getElem hlt⟩
    obtain ⟨b, o, hb, hat, hld⟩ := ld2 (hv.le hle1) i hw
    have hqv := slN_same hv (ne_of_get hw)
    simp (disch := first | omega | (simp only [Wx]; done) | (simp only [Wy]; done) | (simp only [Wv]; omega) | with_unfolding_all rfl) only [Wz, ptrTo, sliceTo, hv.len, s1, rs_7_4, hat, hld, enc2]
    refine name13_w _ ?_
    simp (disch := first | omega | (simp only [Wx]; done) | (simp only [Wy]; done) | (simp only [Wv]; omega) | with_unfolding_all rfl) only [Wz, ptrTo, sliceTo, hqv, s1, hat, hld, T.get_updne]
    refine mode6_w _ ?_
    simp (disch := first | omega | (simp only [Wx]; done) | (simp only [Wy]; done) | (simp only [Wv]; omega) | with_unfolding_all rfl) only [Wz, ptrTo, sliceTo, nmV]
    obtain ⟨hA, eA⟩ : ∃ hA : Heap, hA = ⟨h1.nx + 1, h1.bl.upd h1.nx (cellsO [.int .i64 (nmF w.1).1, .int .i64 (nmF w.1).2] 27 false), h1.lo⟩ := ⟨_, rfl⟩
    have hleA : Le h1 hA := by subst eA; exact (Le.refl h1).new _
    have gA : hA.bl.get h1.nx = some (cellsO [.int .i64 (nmF w.1).1, .int .i64 (nmF w.1).2] 27 false) := by subst eA; exact T.get_upd_same _ _ _
    have nA : hA.nx = h1.nx + 1 := by subst eA; rfl
    have lA : hA.lo = h1.lo := by subst eA; rfl
    rw [← eA]
    clear eA
    refine plan_w H _ _ _ hA _ _ (hv1.le hleA) (by omega) (by omega) ?_
    intro u h2 hu qu hle2
    obtain ⟨hc0, he0⟩ := plan_ok st1.kf wf1 (nmF w.1).1 (nmF w.1).2 (mdF w.2)
    have hPl := planF_len (modeOf H) (nmF w.1).1 (nmF w.1).2 (mdF w.2)
    obtain ⟨P, eP⟩ : ∃ P, planF (modeOf H) (nmF w.1).1 (nmF w.1).2 (mdF w.2) = P := ⟨_, rfl⟩
    rw [eP] at hu hc0 he0 hPl
    have n2 := hle2.nx
    have l2 := hle2.lo
    have g2 := (hle2.get h1.nx (by omega)).trans gA
    have hall2 := hle1.trans (hleA.trans hle2)
    have hv2 := (hv1.le hleA).le hle2
    refine ⟨fun n l3 h3 => ∃ (k : Nat) (K : List H4), slot l3 43 = .int .i64 (k : Int) ∧ k ≤ P.length ∧ n = P.length - k ∧ Le h2 h3 ∧ Sl enc4 h3 (slot l3 36) K ∧ veq 8 (slot l3 36) (slot l3 36) = true ∧ St K ∧ WF (modeOf K) ∧ K.length ≤ H.length + k ∧
        Chain (modeOf K) (P.drop k) ∧ endF (modeOf K) (P.drop k) = endF (modeOf H) P ∧ GE (modeOf H) (modeOf K),
      ⟨_, 0, H, rfl, Nat.zero_le _, rfl, Le.refl _, hv2, q1, st1, wf1, Nat.le_refl _, hc0, rfl, GE.refl st1.kf⟩, ?_⟩
    rintro n l3 h3 ⟨k, K, s3, hk, rfl, hle3, hv3, q3, st3, wf3, len3, ch3, en3, ge3⟩
    have n3 := hle3.nx
    have l3' := hle3.lo
    have hall3 := hall2.trans hle3
    by_cases hltk : k < P.length
    · obtain ⟨p, hp⟩ : ∃ p, P[k]? = some p := ⟨_, List.getElem?_eq_getElem hltk⟩
      obtain ⟨b3, o3, hb3, hat3, hld3⟩ := ld3 (hu.le hle3) k hp
      have hdr : P.drop k = p :: P.drop (k + 1) := by
        rw [List.drop_eq_getElem_cons hltk]
        rw [List.getElem?_eq_getElem hltk] at hp
        rw [Option.some.inj hp]
      rw [hdr] at ch3 en3
      obtain ⟨cs, ch3⟩ := ch3
      simp (disch := first | omega | (simp only [Wx]; done) | (simp only [Wy]; done) | (simp only [Wv]; omega) | with_unfolding_all rfl) only [Wz, ptrTo, sliceTo, hu.len, s3, rs_7_2, hat3, hld3]
      refine mode_w K _ _ h3 _ _ hv3 (by omega) (by omega) ?_
      intro h4 hle4
      have n4 := hle4.nx
      have l4 := hle4.lo
      obtain ⟨b4, o4, hb4, hat4, hld4⟩ := ld3 ((hu.le hle3).le hle4) k hp
      have g4 := (hle4.get h1.nx (by omega)).trans ((hle3.get h1.nx (by omega)).trans g2)
      obtain ⟨st4, len4, mo4, ne4⟩ := st3.put cs.ok cs.kn cs.ne
      obtain ⟨up1, up2, up3⟩ := step_up st3.kf wf3 cs
      have fin : ∀ (l' : List Value) (h' : Heap) (v' : Value), slot l' 43 = .int .i64 ((k : Int) + 1) → slot l' 36 = v' → Sl enc4 h' v' (putH K ⟨1, p.1, p.2.1, p.2.2⟩) → Le h4 h' →
          ∃ m, m < P.length - k ∧ ∃ (k : Nat) (K : List H4), slot l' 43 = .int .i64 (k : Int) ∧ k ≤ P.length ∧ m = P.length - k ∧ Le h2 h' ∧ Sl enc4 h' (slot l' 36) K ∧ veq 8 (slot l' 36) (slot l' 36) = true ∧ St K ∧ WF (modeOf K) ∧ K.length ≤ H.length + k ∧
            Chain (modeOf K) (P.drop k) ∧ endF (modeOf K) (P.drop k) = endF (modeOf H) P ∧ GE (modeOf H) (modeOf K) := by
        intro l' h' v' e1 e2 e3 e4
        subst e2
        refine ⟨_, ?_, k + 1, _, e1, by omega, rfl, hle3.trans (hle4.trans e4), e3, slN_same e3 ne4, st4, by rw [mo4]; exact up2, by omega, by rw [mo4]; exact ch3, by rw [mo4]; exact en3, by rw [mo4]; exact ge3.trans up3⟩
        omega
      have put : ∀ N24 v26 v27 v28 v29 v30 v31 v32 v34 v36 v38 v40 v42 v44 v46 v47, (∀ (l' : List Value) (h' : Heap) (v' : Value), slot l' 43 = .int .i64 ((k : Int) + 1) → slot l' 36 = v' → Sl enc4 h' v' (putH K ⟨1, p.1, p.2.1, p.2.2⟩) → Le h4 h' → N24 l' h') →
          rs_7_0 l3 u N24 v26 v27 v28 v29 v30 v31 v32 v34 v36 v38 v40 v42 v44 v46 v47 h4 IsTrue := by
        intro N24 v26 v27 v28 v29 v30 v31 v32 v34 v36 v38 v40 v42 v44 v46 v47 hN
        refine plans_put _ _ _ _ _ _ _ _ _ _ _ _ _ _ _ _ _ _ h4 _ P k p K ((hu.le hle3).le hle4) hp (by omega) s3 (hv3.le hle4) (by omega) (by omega) ?_ hN
        rintro K' rfl
        exact ⟨st4.whole (by rw [mo4]; exact up2), by omega⟩
      by_cases hz : modeOf K p.1 p.2.1 = 0
      · simp (disch := first | omega | (simp only [Wx]; done) | (simp only [Wy]; done) | (simp only [Wv]; omega) | with_unfolding_all rfl) only [Wz, ptrTo, sliceTo, dec_t hz]
        exact put _ _ _ _ _ _ _ _ _ _ _ _ _ _ _ _ fin
      · simp (disch := first | omega | (simp only [Wx]; done) | (simp only [Wy]; done) | (simp only [Wv]; omega) | with_unfolding_all rfl) only [Wz, ptrTo, sliceTo, dec_f hz, s3, hat4, hld4]
        refine rcovers_w _ _ ?_
        simp (disch := first | omega | (simp only [Wx]; done) | (simp only [Wy]; done) | (simp only [Wv]; omega) | with_unfolding_all rfl) only [Wz, ptrTo, sliceTo, cs.new]
        exact put _ _ _ _ _ _ _ _ _ _ _ _ _ _ _ _ fin
    · have hkP : k = P.length := by omega
      have g3 := (hle3.get h1.nx (by omega)).trans g2
      subst hkP
      rw [List.drop_length] at en3
      have en3 : modeOf K = endF (modeOf H) P := en3
      have hi3 : impF (modeOf K) (nmF w.1).1 (nmF w.1).2 (mdF w.2) = true := by rw [en3]; exact he0
      simp (disch := first | omega | (simp only [Wx]; done) | (simp only [Wy]; done) | (simp only [Wv]; omega) | with_unfolding_all rfl) only [Wz, ptrTo, sliceTo, hu.len, s3, rs_7_3, g3]
      refine plan_w K _ _ _ h3 _ _ hv3 (by omega) (by omega) ?_
      intro u4 h4 hu4 _ hle4
      rw [planF_imp hi3] at hu4
      have n4 := hle4.nx
      have l4 := hle4.lo
      simp (disch := first | omega | (simp only [Wx]; done) | (simp only [Wy]; done) | (simp only [Wv]; omega) | with_unfolding_all rfl) only [Wz, ptrTo, sliceTo, hu4.len, hu.len, s1, List.length_nil]
      refine ⟨fun n l5 h5 => ∃ (j : Nat), slot l5 21 = .int .i64 (j : Int) ∧ j ≤ i + 1 ∧ n = i + 1 - j ∧ Le h4 h5, ⟨_, 0, rfl, Nat.zero_le _, rfl, Le.refl _⟩, ?_⟩
      rintro n l5 h5 ⟨j, s5, hj, rfl, hle5⟩
      have n5 := hle5.nx
      have l5' := hle5.lo
      have hall5 := hall3.trans (hle4.trans hle5)
      have im3 : ∀ (j : Nat) x, j < i + 1 → L[j]? = some x → impF (modeOf K) (nmF x.1).1 (nmF x.1).2 (mdF x.2) = true := by
        intro j x hj hx
        rcases Nat.lt_or_ge j i with h6 | h6
        · exact ge3.imp (im1 j x h6 hx)
        · obtain rfl : j = i := by omega
          rw [hw] at hx; cases hx; exact hi3
      by_cases hji : j ≤ i
      · obtain ⟨x, hx⟩ : ∃ x, L[j]? = some x := ⟨_, List.getElem?_eq_getElem (by omega)⟩
        obtain ⟨b5, o5, hb5, hat5, hld5⟩ := ld2 (hv.le hall5) j hx
        simp (disch := first | omega | (simp only [Wx]; done) | (simp only [Wy]; done) | (simp only [Wv]; omega) | with_unfolding_all rfl) only [Wz, ptrTo, sliceTo, s5, s1, rs_7_1, hat5, hld5]
        refine name13_w _ ?_
        simp (disch := first | omega | (simp only [Wx]; done) | (simp only [Wy]; done) | (simp only [Wv]; omega) | with_unfolding_all rfl) only [Wz, ptrTo, sliceTo, hqv, q3, s5, hat5, hld5]
        refine mode6_w _ ?_
        refine implied_w K _ _ _ h5 _ _ ((hv3.le hle4).le hle5) (by omega) (by omega) ?_
        intro h6 hle6
        simp (disch := first | omega | (simp only [Wx]; done) | (simp only [Wy]; done) | (simp only [Wv]; omega) | with_unfolding_all rfl) only [Wz, ptrTo, sliceTo, im3 j x (by omega) hx, s5]
        exact ⟨_, by omega, j + 1, rfl, by omega, rfl, hle5.trans hle6⟩
      · simp (disch := first | omega | (simp only [Wx]; done) | (simp only [Wy]; done) | (simp only [Wv]; omega) | with_unfolding_all rfl) only [Wz, ptrTo, sliceTo, s5, s1]
        exact ⟨_, by omega, i + 1, K, rfl, by omega, rfl, hall5, (hv3.le hle4).le hle5, q3, st3, wf3, by omega, im3⟩
  · simp (disch := first | omega | (simp only [Wx]; done) | (simp only [Wy]; done) | (simp only [Wv]; omega) | with_unfolding_all rfl) only [Wz, ptrTo, sliceTo, hv.len, s1]
    rfl
end Go.Proofs
