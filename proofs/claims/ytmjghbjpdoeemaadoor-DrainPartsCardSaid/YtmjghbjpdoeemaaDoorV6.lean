/-
  PROVED HERE: a part of the proof, by a calculus of weakest conditions over an abstract heap (VaiB).
-/
import Derived.Test.YtmjghbjpdoeemaaDoorV5
set_option linter.unusedVariables false
set_option linter.unusedSimpArgs false
namespace Go.Vai
open Go
section
variable {β : Type} {fl : β}
theorem bin_str (P : Program) (t : TypeId) (cn gd : Bool) (a b : ByteArray) (h : Heap) (κ : Value → Heap → β) (hs : a.size + b.size ≤ 9223372036854775807) : binB fl P .add t cn gd (.string a) (.string b) h κ = κ (.string (a ++ b)) h := by
  have e : Nat.ble (Nat.add a.size b.size) 9223372036854775807 = true := Nat.ble_eq_true_of_le hs
  simp only [binB]
  rw [e]
theorem bin_xor32 (P : Program) (t : TypeId) (cn gd : Bool) (a b : Int) (h : Heap) (κ : Value → Heap → β) : binB fl P .xor t cn gd (.int .u32 a) (.int .u32 b) h κ = κ (.int .u32 (IntKind.u32.wrap ((BitVec.ofInt IntKind.u32.bits a ^^^ BitVec.ofInt IntKind.u32.bits b).toNat))) h := by
  simp only [binB, kindEq, intB, fiK_eq, wrapB_eq]
theorem bin_mul32 (P : Program) (t : TypeId) (cn gd : Bool) (a b : Int) (h : Heap) (κ : Value → Heap → β) : binB fl P .mul t cn gd (.int .u32 a) (.int .u32 b) h κ = κ (.int .u32 (IntKind.u32.wrap (a * b))) h := by
  simp only [binB, kindEq, intB, fiK_eq, wrapB_eq]; rfl
theorem bin_rem32 (P : Program) (t : TypeId) (cn gd : Bool) (a b : Int) (h : Heap) (κ : Value → Heap → β) (hb : b ≠ 0) : binB fl P .rem t cn gd (.int .u32 a) (.int .u32 b) h κ = κ (.int .u32 (Int.tmod a b)) h := by
  simp only [binB, kindEq, intB, fiK_eq, ieqB_eq, hb, decide_false]
theorem conv_u32 (k : IntKind) (a : Int) (h : Heap) (κ : Value → Heap → β) : convI fl .u32 (.int k a) h κ = κ (.int .u32 (IntKind.u32.wrap a)) h := by simp only [convI, fiK_eq, wrapB_eq]
theorem wrap32_range (a : Int) : 0 ≤ IntKind.u32.wrap a ∧ IntKind.u32.wrap a < 4294967296 := by
  unfold IntKind.wrap
  simp only [IntKind.bits, IntKind.signed]
  have h1 := Int.emod_nonneg a (show (2 : Int) ^ 32 ≠ 0 by decide)
  have h2 := Int.emod_lt_of_pos a (show (0 : Int) < 2 ^ 32 by decide)
  simp at *
  omega
theorem wrap32_id {a : Int} (h : 0 ≤ a ∧ a < 4294967296) : IntKind.u32.wrap a = a := by
  unfold IntKind.wrap
  simp only [IntKind.bits, IntKind.signed]
  have := Int.emod_eq_of_lt h.1 (show a < 2 ^ 32 by omega)
  simp at *
  omega
theorem veq_str (s : ByteArray) : veq 8 (.string s) (.string s) = true := by
  show bytesEqB s s = true
  rw [bytesEqB_eq]; simp
def bytesV (s : ByteArray) : List Value := s.data.toList.map fun b : UInt8 => Value.int .u8 (Int.ofNat b.toNat)
theorem bytesV_get {s : ByteArray} {i : Nat} (h : i < s.data.toList.length) : (bytesV s)[i]? = some (.int .u8 (Int.ofNat (s.data.toList[i]).toNat)) := by
  unfold bytesV; rw [List.getElem?_map, List.getElem?_eq_getElem h]; rfl
theorem strBytes_eq (e : TypeId) (s : ByteArray) (h : Heap) (κ : Value → Heap → β) (hs : s.data.toList.length ≤ 1000000000000) :
    strBytes fl e (.string s) h κ = κ (.slice (some ⟨h.nx, 0, none⟩) s.data.toList.length openCap) ⟨h.nx + 1, h.bl.upd h.nx (roO (bytesV s) e), h.lo⟩ := by
  unfold strBytes
  simp only [bytesK_eq, layN_eq, Nat.zero_add, List.length_map]
  rw [Nat.ble_eq_true_of_le hs]
  simp only [newBlock_eq]
  unfold roO bytesV
  simp only [List.length_map]
end
end Go.Vai
