/-
  PROVED HERE: a part of the proof, by a calculus of weakest conditions over an abstract heap (A0).
-/
import Derived.Test.YtlmkplcfmngigaaV3
import Derived.Test.YtlmkplcfmngigaaPlain
import Derived.Test.YtlmkplcfmngigaaRS8
set_option linter.unusedVariables false
set_option linter.unusedSimpArgs false
namespace Go.Proofs
open Go.Vai Go.Clashes

theorem mixed : Try.prog.follows .mixedOrders = true := by kernel_rfl

/-- a name's value -/
def nmV (t r : Int) : Value := .agg ⟨[.int .i64 t, .int .i64 r]⟩
/-- a lock's cells -/
def enc4 (p : H4) : List Value := [.int .i64 p.x, .int .i64 p.t, .int .i64 p.r, .int .i64 p.m]
theorem enc4_len (p : H4) : (enc4 p).length = 4 := rfl
theorem enc4_one (p : H4) : (enc4 p).all oneC = true := rfl

/-- a lock in a slice: its address; how it is read -/
theorem ld4 {h : Heap} {v : Value} {L : List H4} (hs : Sl enc4 h v L) (i : Nat) {p : H4} (hp : L[i]? = some p) :
    ∃ b o, b < h.nx ∧ (∀ (β : Type) (fl : β) (h' : Heap) (κ : Value → Heap → β), indexAddrS fl 4 v (.int .i64 (i : Int)) h' κ = κ (.pointer (some ⟨b, o, none⟩)) h') ∧
      ((∀ (β : Type) (fl : β) (κ : List Value → β), ldA fl (h.bl.get b) o 4 κ = κ (enc4 p)) ∧
      (∀ (β : Type) (fl : β) (κ : List Value → β), ldA fl (h.bl.get b) (o + 1) 2 κ = κ [.int .i64 p.t, .int .i64 p.r]) ∧
      (∀ (β : Type) (fl : β) (κ : Value → β), ldO fl (h.bl.get b) o κ = κ (.int .i64 p.x)) ∧
      (∀ (β : Type) (fl : β) (κ : Value → β), ldO fl (h.bl.get b) (o + 1) κ = κ (.int .i64 p.t)) ∧
      (∀ (β : Type) (fl : β) (κ : Value → β), ldO fl (h.bl.get b) (o + 2) κ = κ (.int .i64 p.r)) ∧
      (∀ (β : Type) (fl : β) (κ : Value → β), ldO fl (h.bl.get b) (o + 3) κ = κ (.int .i64 p.m))) := by
  obtain ⟨b, o, h1, h2, h3, hh⟩ := hs.ld enc4_len i hp
  have h4 : (enc4 p).length = 4 := rfl
  refine ⟨b, o, h1, h2, h3, fun β fl κ => ldA_has (hh.sub 1 2 (by omega)) 2 κ rfl, fun β fl κ => ?_, fun β fl κ => ?_, fun β fl κ => ?_, fun β fl κ => ?_⟩
  · exact ldO_has (fl := fl) hh 0 κ (by omega)
  · exact ldO_has (fl := fl) hh 1 κ (by omega)
  · exact ldO_has (fl := fl) hh 2 κ (by omega)
  · exact ldO_has (fl := fl) hh 3 κ (by omega)
set_option maxRecDepth 100000
theorem eq27k (h : Heap) (a b c d : Int) : eqB Try.prog h 100 27 (.agg ⟨[.int .i64 a, .int .i64 b]⟩) (.agg ⟨[.int .i64 c, .int .i64 d]⟩) =
    (match (some (ieqB a c)) with | some true => (match some (ieqB b d) with | some true => some true | r => r) | r => r) := by kernel_rfl
theorem eq27 (h : Heap) (a b c d : Int) : eqB Try.prog h 100 27 (.agg ⟨[.int .i64 a, .int .i64 b]⟩) (.agg ⟨[.int .i64 c, .int .i64 d]⟩) = some (decide (a = c ∧ b = d)) := by
  rw [eq27k, ieqB_eq, ieqB_eq]
  by_cases h1 : a = c <;> by_cases h2 : b = d <;> simp [h1, h2]
theorem bin_eq27 {β : Type} {fl : β} (cn : Bool) (a b c d : Int) (h : Heap) (κ : Value → Heap → β) : binB fl Try.prog .eql 27 cn false (.agg ⟨[.int .i64 a, .int .i64 b]⟩) (.agg ⟨[.int .i64 c, .int .i64 d]⟩) h κ = κ (.bool (decide (a = c ∧ b = d))) h := by
  simp only [binB, eq27, fbK_eq]
theorem bin_ne27 {β : Type} {fl : β} (cn : Bool) (a b c d : Int) (h : Heap) (κ : Value → Heap → β) : binB fl Try.prog .neq 27 cn false (.agg ⟨[.int .i64 a, .int .i64 b]⟩) (.agg ⟨[.int .i64 c, .int .i64 d]⟩) h κ = κ (.bool (!decide (a = c ∧ b = d))) h := by
  simp only [binB, eq27, fbK_eq]

theorem und4 : Try.prog.underlying 4 = some .bool := by kernel_rfl
theorem eq4 (h : Heap) (a b : Bool) : eqB Try.prog h 100 4 (.bool a) (.bool b) = some (decide (a = b)) := by
  unfold eqB
  simp only [und4]
  cases a <;> cases b <;> exact id rfl
theorem bin_eqlb {β : Type} {fl : β} (cn : Bool) (a b : Bool) (h : Heap) (κ : Value → Heap → β) : binB fl Try.prog .eql 4 cn false (.bool a) (.bool b) h κ = κ (.bool (decide (a = b))) h := by
  simp only [binB, eq4, fbK_eq]
theorem bin_neqb {β : Type} {fl : β} (cn : Bool) (a b : Bool) (h : Heap) (κ : Value → Heap → β) : binB fl Try.prog .neq 4 cn false (.bool a) (.bool b) h κ = κ (.bool (!decide (a = b))) h := by
  simp only [binB, eq4, fbK_eq]

/-! ## modes -/
theorem cmp_neg1 (n : Nat) (b : Int) : cmp (.negSucc n) b = false := by
  cases hq : cmp (.negSucc n) b with
  | false => rfl
  | true => simp [cmp] at hq
theorem cmp_neg2 (a : Int) (n : Nat) : cmp a (.negSucc n) = false := by rw [cmp_symm]; exact cmp_neg1 n a
theorem cmp_big1 (n : Nat) (b : Int) : cmp (.ofNat (n + 7)) b = false := by
  cases hq : cmp (.ofNat (n + 7)) b with
  | false => rfl
  | true => simp [cmp] at hq; omega
theorem cmp_big2 (a : Int) (n : Nat) : cmp a (.ofNat (n + 7)) = false := by rw [cmp_symm]; exact cmp_big1 n a

/-- a mode is one of seven, or none -/
theorem modeCases (a : Int) : (∃ i : Nat, i < 7 ∧ a = Int.ofNat i) ∨ (∃ n : Nat, a = Int.negSucc n) ∨ ∃ n : Nat, a = Int.ofNat (n + 7) := by
  cases a with
  | negSucc n => exact .inr (.inl ⟨n, rfl⟩)
  | ofNat i =>
    rcases Nat.lt_or_ge i 7 with h | h
    · exact .inl ⟨i, h, rfl⟩
    · exact .inr (.inr ⟨i - 7, by congr 1; omega⟩)
theorem seven {p : Nat → Prop} (h0 : p 0) (h1 : p 1) (h2 : p 2) (h3 : p 3) (h4 : p 4) (h5 : p 5) (h6 : p 6) : ∀ i, i < 7 → p i := by
  intro i hi
  have : i = 0 ∨ i = 1 ∨ i = 2 ∨ i = 3 ∨ i = 4 ∨ i = 5 ∨ i = 6 := by omega
  rcases this with rfl | rfl | rfl | rfl | rfl | rfl | rfl <;> assumption

/-- a function of two modes that the kernel runs -/
theorem two_modes {f : FuncId} {F : Int → Int → Value} (h1 : ∀ i, i < 7 → ∀ j, j < 7 → answersS Try.prog 200 f [.int .i64 (.ofNat i), .int .i64 (.ofNat j)] (F (.ofNat i) (.ofNat j)) = true)
    (h2 : ∀ (n : Nat) (b : Int), answersS Try.prog 200 f [.int .i64 (.negSucc n), .int .i64 b] (F (.negSucc n) b) = true) (h3 : ∀ (n : Nat) (b : Int), answersS Try.prog 200 f [.int .i64 (.ofNat (n + 7)), .int .i64 b] (F (.ofNat (n + 7)) b) = true)
    (h4 : ∀ i, i < 7 → ∀ n : Nat, answersS Try.prog 200 f [.int .i64 (.ofNat i), .int .i64 (.negSucc n)] (F (.ofNat i) (.negSucc n)) = true) (h5 : ∀ i, i < 7 → ∀ n : Nat, answersS Try.prog 200 f [.int .i64 (.ofNat i), .int .i64 (.ofNat (n + 7))] (F (.ofNat i) (.ofNat (n + 7))) = true)
    (a b : Int) {h : Heap} {κ : Value → Heap → Prop} (hk : κ (F a b) h) : CallW Try.prog f [.int .i64 a, .int .i64 b] h κ := by
  refine closedW mixed (n := 200) ?_ hk
  rcases modeCases a with ⟨i, hi, rfl⟩ | ⟨n, rfl⟩ | ⟨n, rfl⟩
  · rcases modeCases b with ⟨j, hj, rfl⟩ | ⟨m, rfl⟩ | ⟨m, rfl⟩
    · exact h1 i hi j hj
    · exact h4 i hi m
    · exact h5 i hi m
  · exact h2 n b
  · exact h3 n b

set_option maxRecDepth 100000
theorem c65a : ∀ i, i < 7 → ∀ j, j < 7 → answersS Try.prog 200 65 [.int .i64 (.ofNat i), .int .i64 (.ofNat j)] (.bool (cmp (.ofNat i) (.ofNat j))) = true := by decide +kernel
theorem c65b (n : Nat) (b : Int) : answersS Try.prog 200 65 [.int .i64 (.negSucc n), .int .i64 b] (.bool false) = true := by kernel_rfl
theorem c65c (n : Nat) (b : Int) : answersS Try.prog 200 65 [.int .i64 (.ofNat (n + 7)), .int .i64 b] (.bool false) = true := by kernel_rfl
theorem c65d : ∀ i, i < 7 → ∀ n : Nat, answersS Try.prog 200 65 [.int .i64 (.ofNat i), .int .i64 (.negSucc n)] (.bool false) = true := by
  refine seven ?_ ?_ ?_ ?_ ?_ ?_ ?_ <;> intro n <;> kernel_rfl
theorem c65e : ∀ i, i < 7 → ∀ n : Nat, answersS Try.prog 200 65 [.int .i64 (.ofNat i), .int .i64 (.ofNat (n + 7))] (.bool false) = true := by
  refine seven ?_ ?_ ?_ ?_ ?_ ?_ ?_ <;> intro n <;> kernel_rfl
/-- mode.Compatible -/
theorem compat_w (a b : Int) {h : Heap} {κ : Value → Heap → Prop} (hk : κ (.bool (cmp a b)) h) : CallW Try.prog 65 [.int .i64 a, .int .i64 b] h κ :=
  two_modes (F := fun a b => .bool (cmp a b)) c65a (fun n b => by rw [cmp_neg1]; exact c65b n b) (fun n b => by rw [cmp_big1]; exact c65c n b) (fun i hi n => by rw [cmp_neg2]; exact c65d i hi n) (fun i hi n => by rw [cmp_big2]; exact c65e i hi n) a b hk
end Go.Proofs
