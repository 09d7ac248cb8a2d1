/-
  PROVED HERE: a part of the proof, by a calculus of weakest conditions over an abstract heap (A14).
-/
import Derived.Test.YtijmemedhkgplaaGreatDoorU33
import Derived.Test.YtijmemedhkgplaaGreatDoorV3
import Derived.Test.YtijmemedhkgplaaGreatDoorRows
set_option linter.unusedVariables false
set_option linter.unusedSimpArgs false
set_option maxRecDepth 100000
namespace Go.Proofs
open Go.Vai Go.Clashes Go.ChangeShapes Go.WideShapes
theorem laidOut : laidOutB Tryz.prog = true := by kernel_rfl
/-- a struct that came in -/
theorem open_struct {P : Program} {H : Type} {enc : TypeId × Value → H} {α : Type} {encA : α → List Value} {s : Nat} {W : World} {t : TypeId} {fs : Array Field} {v : Value} {d : DataW H} {p : List MemPlace} {base : Nat} (ht : P.underlying t = some (.struct fs)) (hc : P.cellsOf t = s)
    (hdec : ∀ (n : Nat) (cs : List Value) (d : DataW H × List MemPlace), cs.length = s → DataW.trod enc P W 0 (fun _ => true) true n t cs = some d → ∃ a : α, cs = encA a)
    (hw : Value.okWide P W .any base t v) (h : DataW.Trod enc P W 0 (fun _ => true) true t v d p) : ∃ a : α, v = .agg ⟨encA a⟩ := by
  obtain ⟨cs, rfl, hsz⟩ := okWide_struct ht hw
  obtain ⟨fuel, hf⟩ := h
  have hf : DataW.trod enc P W 0 (fun _ => true) true fuel t cs.toList = some (d, p) := hf
  obtain ⟨a, ha⟩ := hdec fuel cs.toList _ (by simp [hsz, hc]) hf
  refine ⟨a, ?_⟩
  rw [← ha]
theorem decAct {H : Type} {enc : TypeId × Value → H} {w : World} (n : Nat) (cs : List Value) (d : DataW H × List MemPlace) (hl : cs.length = 6) (h : DataW.trod enc Tryz.prog w 0 (fun _ => true) true n 35 cs = some d) : ∃ p : Act, cs = encA p := by
  have k0 := dec_flat (P := Tryz.prog) 10 35 [.i .i64, .i .i64, .i .i64, .i .i64, .i .i64, .i .i64] (by kernel_rfl) _ _ _ h
  clear h
  obtain ⟨_, _, rfl, ⟨n0, rfl, _⟩, k1⟩ := k0.uncons
  obtain ⟨_, _, rfl, ⟨n1, rfl, _⟩, k2⟩ := k1.uncons
  obtain ⟨_, _, rfl, ⟨n2, rfl, _⟩, k3⟩ := k2.uncons
  obtain ⟨_, _, rfl, ⟨n3, rfl, _⟩, k4⟩ := k3.uncons
  obtain ⟨_, _, rfl, ⟨n4, rfl, _⟩, k5⟩ := k4.uncons
  obtain ⟨_, _, rfl, ⟨n5, rfl, _⟩, k6⟩ := k5.uncons
  cases k6.unnil
  exact ⟨⟨_, _, _, _, _, _⟩, rfl⟩
def encC (c : Caps) : List Value := [.int .i64 c.S, .int .i64 c.H, .int .i64 c.R, .int .i64 c.P]
theorem decC {H : Type} {enc : TypeId × Value → H} {w : World} (n : Nat) (cs : List Value) (d : DataW H × List MemPlace) (hl : cs.length = 4) (h : DataW.trod enc Tryz.prog w 0 (fun _ => true) true n 29 cs = some d) : ∃ p : Caps, cs = encC p := by
  have k0 := dec_flat (P := Tryz.prog) 10 29 [.i .i64, .i .i64, .i .i64, .i .i64] (by kernel_rfl) _ _ _ h
  clear h
  obtain ⟨_, _, rfl, ⟨n0, rfl, _⟩, k1⟩ := k0.uncons
  obtain ⟨_, _, rfl, ⟨n1, rfl, _⟩, k2⟩ := k1.uncons
  obtain ⟨_, _, rfl, ⟨n2, rfl, _⟩, k3⟩ := k2.uncons
  obtain ⟨_, _, rfl, ⟨n3, rfl, _⟩, k4⟩ := k3.uncons
  cases k4.unnil
  exact ⟨⟨_, _, _, _⟩, rfl⟩
def encNm (n : Int × Int) : List Value := [.int .i64 n.1, .int .i64 n.2]
theorem decNm {H : Type} {enc : TypeId × Value → H} {w : World} (n : Nat) (cs : List Value) (d : DataW H × List MemPlace) (hl : cs.length = 2) (h : DataW.trod enc Tryz.prog w 0 (fun _ => true) true n 24 cs = some d) : ∃ p : Int × Int, cs = encNm p := by
  have k0 := dec_flat (P := Tryz.prog) 10 24 [.i .i64, .i .i64] (by kernel_rfl) _ _ _ h
  clear h
  obtain ⟨_, _, rfl, ⟨n0, rfl, _⟩, k1⟩ := k0.uncons
  obtain ⟨_, _, rfl, ⟨n1, rfl, _⟩, k2⟩ := k1.uncons
  cases k2.unnil
  exact ⟨⟨_, _⟩, rfl⟩
theorem lawApart_row (L : List Act) (n : Int × Int) (h : Heap) (v : Value) (hv : Sl encA h v L) (hc : Cut 35 6 h v L.length) (hlo : h.lo ≤ h.nx) (hno : ∀ c vs t, h.bl.get c ≠ some (cellsO vs t true)) :
    CallW Tryz.prog 3 [v, .agg ⟨encNm n⟩] h IsTrue := lawApart_w L n.1 n.2 h v hv hlo hno IsTrue fun _ => rfl
end Go.Proofs
