/-
  PROVED HERE: a part of a calculus of weakest conditions over an abstract heap.
  PROVED HERE: a part of slices.Insert as a step of the interpreter.
-/
import Derived.Test.YtlmkplcfmngigaaVaiS18
set_option linter.unusedVariables false
set_option linter.unusedSimpArgs false
namespace Go.Vai
open Go
variable {P : Program} {w : World}

theorem cell_row {B : Nat} {C : Array Value} {e : TypeId} (hC : w.heap[B]? = some (.cells C e (0, 0))) (o j : Nat) : w.cell? ((⟨B, o, none⟩ : Addr).add j) = C[o + j]? := by
  rw [addr_add]
  simp [World.cell?, hC]

/-- the first elements of a slice over a row -/
theorem run_first_row {B o k m n c : Nat} {C : Array Value} {e : TypeId} (hC : w.heap[B]? = some (.cells C e (0, 0))) (hle : o + m * k ≤ C.size) :
    (Builtin.firstCells k m (.slice (some ⟨B, o, none⟩) n c)).run P w = .ok ((C.toList.drop o).take (m * k)).toArray w := by
  have hlen : ((C.toList.drop o).take (m * k)).length = m * k := by simp; omega
  have := run_loadCells_list (P := P) w ⟨B, o, none⟩ ((C.toList.drop o).take (m * k)) fun j v hj => by
    rw [cell_row hC]
    rw [List.getElem?_take] at hj
    split at hj
    · simpa [List.getElem?_drop] using hj
    · cases hj
  rw [hlen] at this
  exact this

/-- a copy into a row -/
theorem run_copy_row_at {tS e k ty D o dl dc n c : Nat} {a : Option Addr} {l' : List Value} {R : Array Value} (hu : P.underlying tS = some (.slice e)) (hs : szOf P e = some k)
    (hf : (Builtin.firstCells k (Nat.min n dl) (.slice a n c)).run P w = .ok l'.toArray w) (hR : w.heap[D]? = some (.cells R e (0, 0))) (hfit : o + l'.length ≤ R.size) (hone : ∀ v ∈ l', v.oneCell' = true) :
    (Builtin.copy_ #[tS, tS] ty #[.slice (some ⟨D, o, none⟩) dl dc, .slice a n c]).run P w = .ok (goInt (Nat.min n dl)) (w.setRow D (R.toList.take o ++ l' ++ R.toList.drop (o + l'.length)).toArray) := by
  have h1 := run_storeCells_at P D o e l' 0 R w hR (by simpa using hfit) hone
  simp only [Nat.add_zero] at h1
  simp [Builtin.copy_, run_und hu, run_size hs, Builtin.lenOf, hf, h1, goInt]

/-- what stood behind moved on, and the new laid in -/
theorem shift_take (L : List Value) (a b N : Nat) (h1 : a ≤ N) (h2 : N + b ≤ L.length) : (L.take (a + b) ++ (L.drop a).take (N - a) ++ L.drop (N + b)).take a = (L.take N).take a := by
  rw [List.append_assoc, List.take_append_of_le_length (by simp; omega), List.take_take, List.take_take]
  congr 1; omega
theorem shift_drop (L : List Value) (a b N : Nat) (h1 : a ≤ N) (h2 : N + b ≤ L.length) : (L.take (a + b) ++ (L.drop a).take (N - a) ++ L.drop (N + b)).drop (a + b) = (L.take N).drop a ++ L.drop (N + b) := by
  rw [List.append_assoc, List.drop_left' (by simp; omega), List.drop_take]
end Go.Vai
