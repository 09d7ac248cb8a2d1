/-
  PROVED HERE: a part of the proof, by a calculus of weakest conditions over an abstract heap (Prims).
-/
import Derived.Test.YtmfinibgeafebaaGreatDoorH5
import Derived.WalkKit
set_option linter.unusedVariables false
set_option linter.unusedSimpArgs false
namespace Go.Proofs
open Go.Vai

theorem mixedHere : Tryz.prog.follows .mixedOrders = true := by kernel_rfl

noncomputable def zHeld : List Value := match zOf Tryz.prog 347 with | some (z, _) => z | none => []
theorem zHeld_ok : zOf Tryz.prog 347 = some (zHeld, 4) := by kernel_rfl
theorem infoHeld : (match Tryz.prog.info? 347 with | some i => (match i.zero with | some z => Nat.beq z.cells.size 4 && Nat.ble i.bytes 10000 | none => false) | none => false) = true := by decide +kernel
set_option maxRecDepth 100000 in
theorem infoHeld' : ∃ i z, Tryz.prog.info? 347 = some i ∧ i.zero = some z ∧ z.cells.size = 4 ∧ i.bytes ≤ 10000 := by
  have h := infoHeld
  split at h <;> try contradiction
  rename_i i hi
  split at h <;> try contradiction
  rename_i z hz
  simp only [Bool.and_eq_true] at h
  exact ⟨i, z, hi, hz, beq_t h.1, ble_t h.2⟩

section
variable {β : Type}
noncomputable def nopr (both : β → β → β) : Prims β := ⟨fun _ => none, both⟩
noncomputable def picksB (fl : β) (both : β → β → β) (args : List Value) (h : Heap) (κ : Value → Heap → β) : β := match veqL (veq 8) args [.int .i64 8, .int .i64 9999, .slice none 0 0] with
  | true => newBlock fl (.dead 8192 46) h fun b h => κ (.slice (some ⟨b, 0, none⟩) 4096 openCap) h
  | false => callF fl (nopr both) Tryz.prog (run fl (nopr both) Tryz.prog 100000) 9 args h κ
theorem picksB_ok {fl : β} {good : β → Prop} (hfl : ¬ good fl) {both : β → β → β} (hb : ∀ x y, good (both x y) → good x ∧ good y) (args args' : List Value) (h : Heap) (φ : Emb) (w : World) (κ : Value → Heap → β) (ha : F2 (VR φ) args args') (hr : HR Tryz.prog φ h w) (hg : good (picksB fl both args h κ)) : CallTo good Tryz.prog φ h w κ 9 args'.toArray := by
  have hp : PrimsOk good (nopr both) Tryz.prog := ⟨hb, fun f g e => by cases e⟩
  unfold picksB at hg
  split at hg
  · rename_i he
    have he := veqL_eq (veq_eq 8) _ _ he
    subst he
    rw [newBlock_eq] at hg
    refine callNew (M := 8192) (e := 46) (picks_w ⟨h.nx, h.bl, h.nx⟩ (Nat.le_refl _) _ fun b h' L hL h1 _ h3 _ => ⟨b, _, rfl, h1, h3, ?_⟩) ha hr hg
    rw [flat_length (s := 2) encP_len, hL]
  · exact callF_sound hfl hp (run_sound hfl hp (draw_sound hfl hp mixedHere) 100000).1 ha hr hg
end

noncomputable def insFn (β : Type) (fl : β) (both : β → β → β) : FuncId → Option (List Value → Heap → (Value → Heap → β) → β) := fun f => match Nat.beq f 222 with | true => some (insertB fl both 347 4 zHeld) | false => match Nat.beq f 9 with | true => some (picksB fl both) | false => none

theorem insFn_ok {β : Type} {fl : β} {good : β → Prop} (hfl : ¬ good fl) {both : β → β → β} (hb : ∀ x y, good (both x y) → good x ∧ good y) : ∀ f g, insFn β fl both f = some g → ∀ (args args' : List Value) (h : Heap) (φ : Emb) (w : World) (κ : Value → Heap → β), F2 (VR φ) args args' → HR Tryz.prog φ h w → good (g args h κ) → CallTo good Tryz.prog φ h w κ f args'.toArray := by
  intro f g hg args args' h φ w κ ha hr hgood
  unfold insFn at hg
  split at hg
  · rename_i hf; have hf := beq_t hf
    subst hf
    cases hg
    obtain ⟨i, z, h1, h2, h3, h4⟩ := infoHeld'
    exact insertB_sound hfl hb (insert222 h1 h2 h3 h4 Tryz.underlying3) Tryz.underlying138 zHeld_ok h1 h4 hr ha hgood
  · split at hg <;> try contradiction
    rename_i hf; have hf := beq_t hf
    subst hf
    cases hg
    exact picksB_ok hfl hb args args' h φ w κ ha hr hgood

noncomputable def prP : Prims PRes := ⟨insFn PRes .bad bothP, bothP⟩
theorem prP_ok (r0 : PRes) : PrimsOk (goodP r0) prP Tryz.prog := ⟨bothP_good r0, insFn_ok (goodP_bad r0) (bothP_good r0)⟩
def isPure (f : FuncId) : Bool := Nat.beq f 119 || Nat.beq f 329 || Nat.beq f 78
noncomputable def prAny (β : Type) (fl : β) (both : β → β → β) : Prims β := ⟨fun f => match isPure f with | true => some (pureB fl prP Tryz.prog 100000 f) | false => insFn β fl both f, both⟩
noncomputable def prB : Prims Bool := prAny Bool false noPr.both
theorem prB_ok : PrimsOk yes prB Tryz.prog := by
  refine ⟨(noPrims (P := Tryz.prog)).both, fun f g hg args args' h φ w κ ha hr hgood => ?_⟩
  have hfl : ¬ yes false := by simp [yes]
  simp only [prB, prAny] at hg
  split at hg
  · cases hg
    exact pureB_sound hfl mixedHere prP_ok hr ha hgood
  · exact insFn_ok hfl (noPrims (P := Tryz.prog)).both f g hg args args' h φ w κ ha hr hgood

end Go.Proofs
