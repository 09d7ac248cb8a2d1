/-
  PROVED HERE: a part of an interpreter for the model's code, and that it is sound.
  The interpreter is sound, part 14: what a reading depends on.
-/
import Derived.Test.YtphbjimlpemadaaVaiS13
set_option linter.unusedVariables false
set_option linter.unusedSimpArgs false
namespace Go.Vai
open Go
variable {β : Type} {fl : β} {good : β → Prop} {pr : Prims β} {P : Program} {φ : Emb} {h h' : Heap} {w : World} {t : TypeId}

/-! ## operands -/
def XI.opsL : XI β → List Operand
  | .k0 _ => []
  | .k1 x _ => [x]
  | .k2 x y _ => [x, y]
  | .k3 x y z _ => [x, y, z]
  | .kn xs _ => xs
def XA.opsL : XA β → List Operand
  | .k0 _ => []
  | .k1 x _ => [x]
  | .k2 x y _ => [x, y]
  | .kn xs _ => xs

theorem XI.congr {i : XI β} {tm tm' : T Value} (he : ∀ y ∈ i.opsL, evv tm' y = evv tm y) (h : Heap) (κ : Value → Heap → β) : i.run tm' h κ = i.run tm h κ := by
  cases i with
  | k0 f => rfl
  | k1 x f => rw [XI.run_k1, XI.run_k1, he x (by simp [XI.opsL])]
  | k2 x y f => rw [XI.run_k2, XI.run_k2, he x (by simp [XI.opsL]), he y (by simp [XI.opsL])]
  | k3 x y z f => rw [XI.run_k3, XI.run_k3, he x (by simp [XI.opsL]), he y (by simp [XI.opsL]), he z (by simp [XI.opsL])]
  | kn xs f =>
    have : xs.map (evv tm') = xs.map (evv tm) := List.map_congr_left he
    rw [XI.run_kn, XI.run_kn, this]
theorem XA.congr {i : XA β} {tm tm' : T Value} (he : ∀ y ∈ i.opsL, evv tm' y = evv tm y) (κ : AObj → (Nat → Value) → β) : i.run tm' κ = i.run tm κ := by
  cases i with
  | k0 f => rfl
  | k1 x f => rw [XA.run_k1, XA.run_k1, he x (by simp [XA.opsL])]
  | k2 x y f => rw [XA.run_k2, XA.run_k2, he x (by simp [XA.opsL]), he y (by simp [XA.opsL])]
  | kn xs f =>
    have : xs.map (evv tm') = xs.map (evv tm) := List.map_congr_left he
    rw [XA.run_kn, XA.run_kn, this]

theorem compR_ops {op : Op} {x : XI β} (hc : compR fl P op = some x) : ∀ y ∈ x.opsL, y ∈ op.operands.toList := by
  cases op <;> simp only [compR] at hc <;> (repeat' split at hc) <;> (try contradiction) <;> cases hc <;>
    simp_all [XI.opsL, Op.operands, Call.operands, splitO]

theorem compA_ops {op : Op} {x : XA β} (hc : compA fl P op = some x) : ∀ y ∈ x.opsL, y ∈ op.operands.toList := by
  cases op <;> simp only [compA] at hc <;> (repeat' split at hc) <;> (try contradiction) <;> cases hc <;>
    simp_all [XA.opsL, Op.operands]

/-! ## more blocks -/
/-- nothing is lost -/
def More (h h' : Heap) : Prop := ∀ b o, h.bl.get b = some o → h'.bl.get b = some o

theorem liveC_more (hm : More h h') {b : Nat} (hl : liveC h b = true) : liveC h' b = true := by
  unfold liveC at *
  split at hl <;> try contradiction
  rename_i hb
  rw [hm _ _ hb]

theorem eqGo_more {rec rec' : TypeId → Value → Value → Option Bool} (hrec : ∀ t x y r, rec t x y = some r → rec' t x y = some r) : ∀ (fs : List Field) (xs ys : List Value) (r : Bool),
    eqGo P rec fs xs ys = some r → eqGo P rec' fs xs ys = some r := by
  intro fs
  induction fs with
  | nil => intro xs ys r h; exact h
  | cons f fs ih =>
    intro xs ys r h
    unfold eqGo at h ⊢
    split at h <;> try contradiction
    rename_i hf
    split at h <;> try contradiction
    · rename_i s h1 h2
      split at h
      · rename_i e; simp only [hrec _ _ _ _ e]; exact ih _ _ _ h
      · rename_i r' hr'
        rw [hrec _ _ _ _ h]
        cases r with
        | true => exact absurd h (by simpa using hr')
        | false => rfl
    · rename_i s h1 h2
      split at h <;> try contradiction
      rename_i x y hx hy
      split at h
      · rename_i e; simp only [hrec _ _ _ _ e]; exact ih _ _ _ h
      · rename_i r' hr'
        rw [hrec _ _ _ _ h]
        cases r with
        | true => exact absurd h (by simpa using hr')
        | false => rfl

theorem eqB_more (hm : More h h') : ∀ (d : Nat) (t : TypeId) (x y : Value) (r : Bool), eqB P h d t x y = some r → eqB P h' d t x y = some r := by
  intro d
  induction d with
  | zero => intro t x y r h; exact h
  | succ d ih =>
    intro t x y r hh
    unfold eqB at hh ⊢
    split at hh <;> try contradiction
    all_goals try exact hh
    · split at hh <;> try contradiction
      split at hh <;> try contradiction
      rename_i l1 l2
      simp only [liveC_more hm l1, liveC_more hm l2]
      exact hh
    · split at hh <;> try contradiction
      exact eqGo_more ih _ _ _ _ hh

theorem findB_more (hm : More h h') {kt : TypeId} {k : Value} : ∀ (es : List MapEntry) (i : Nat) (r : Option (Nat × MapEntry)), findB P h kt k es i = some r → findB P h' kt k es i = some r := by
  intro es
  induction es with
  | nil => intro i r h; exact h
  | cons e es ih =>
    intro i r hh
    unfold findB at hh ⊢
    split at hh <;> try contradiction
    · rename_i he; simp only [eqB_more hm _ _ _ _ _ he]; exact hh
    · rename_i he; simp only [eqB_more hm _ _ _ _ _ he]; exact ih _ _ hh

theorem knownOf_more (hm : More h h') {e : TypeId} {b n : Nat} (hk : knownOf h e b = some n) : knownOf h' e b = some n := by
  unfold knownOf at *
  split at hk <;> try contradiction
  · rename_i hb; rw [hm _ _ hb]; exact hk
  · rename_i hb; rw [hm _ _ hb]; exact hk

theorem compR_more {op : Op} {x : OXI} (hc : compR none P op = some x) (hm : More h h') {tm : T Value} {v : Value} (hr : readO x tm h = some v) : readO x tm h' = some v := by
  unfold readO at *
  cases op <;> simp only [compR] at hc <;> try (cases hc; done)
  case load t a =>
    split at hc <;> try contradiction
    · cases hc; rw [XI.run_k1] at hr ⊢
      unfold loadA at hr ⊢
      split at hr <;> try contradiction
      split at hr <;> try contradiction
      rename_i hb
      simp only [hm _ _ hb]; exact hr
    · cases hc; rw [XI.run_k1] at hr ⊢
      unfold load1 at hr ⊢
      split at hr <;> try contradiction
      split at hr <;> try contradiction
      · rename_i hb
        simp only [hm _ _ hb]; exact hr
      · rename_i hb
        simp only [hm _ _ hb]; exact hr
  case binOp op t x y t2 =>
    cases hc; rw [XI.run_k2] at hr ⊢
    have hq : ∀ t a b r, eqB P h 100 t a b = some r → eqB P h' 100 t a b = some r := eqB_more hm 100
    unfold binB at hr ⊢
    split at hr <;> try contradiction
    · exact hr
    · exact hr
    · split at hr <;> try contradiction
      · split at hr <;> try contradiction
        rename_i he; simp only [hq _ _ _ _ he]; exact hr
      · split at hr <;> try contradiction
        rename_i he; simp only [hq _ _ _ _ he]; exact hr
    · split at hr <;> try contradiction
      · split at hr <;> try contradiction
        rename_i he; simp only [hq _ _ _ _ he]; exact hr
      · split at hr <;> try contradiction
        rename_i he; simp only [hq _ _ _ _ he]; exact hr
  case slice t x lo hi mx =>
    split at hc <;> try contradiction
    · split at hc <;> try contradiction
      cases hc; rw [XI.run_kn] at hr ⊢
      split at hr <;> try contradiction
      split at hr <;> try contradiction
      unfold sliceB at hr ⊢
      split at hr <;> try contradiction
      · exact hr
      · split at hr <;> try contradiction
        · exact hr
        · split at hr <;> try contradiction
          · exact hr
          · split at hr <;> try contradiction
            rename_i hk _
            simp only [knownOf_more hm hk]
            exact hr
    · cases hc; rw [XI.run_kn] at hr ⊢
      exact hr
  case lookup t x i ok =>
    split at hc <;> try contradiction
    split at hc <;> try contradiction
    split at hc <;> try contradiction
    cases hc; rw [XI.run_k2] at hr ⊢
    unfold lookupB lookupE at hr ⊢
    split at hr <;> try contradiction
    split at hr <;> try contradiction
    · exact hr
    · split at hr <;> try contradiction
      rename_i hb
      simp only [hm _ _ hb]
      split at hr <;> try contradiction
      · rename_i hf; simp only [findB_more hm _ _ _ hf]; exact hr
      · rename_i hf; simp only [findB_more hm _ _ _ hf]; exact hr
  case call c =>
    split at hc <;> try contradiction
    · split at hc <;> try contradiction
      split at hc <;> try contradiction
      · cases hc; exact hr
      · cases hc; exact hr
      · cases hc; rw [XI.run_k1] at hr ⊢
        unfold lenMap at hr ⊢
        split at hr <;> try contradiction
        · exact hr
        · split at hr <;> try contradiction
          rename_i hb
          simp only [hm _ _ hb]; exact hr
    · split at hc <;> try contradiction
      cases hc; rw [XI.run_k2] at hr ⊢
      unfold minB at hr ⊢
      split at hr <;> try contradiction
      split at hr <;> exact hr
    · split at hc <;> try contradiction
      cases hc; rw [XI.run_k2] at hr ⊢
      unfold maxB at hr ⊢
      split at hr <;> try contradiction
      split at hr <;> exact hr
  all_goals ((repeat' split at hc) <;> (try contradiction) <;> cases hc <;> exact hr)

end Go.Vai
