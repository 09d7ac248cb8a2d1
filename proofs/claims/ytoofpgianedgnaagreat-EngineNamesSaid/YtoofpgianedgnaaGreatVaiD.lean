/-
  PROVED HERE: a part of an interpreter for the model's code, and that it is sound.
  The interpreter: long runs in pieces, at calls. An entry says of one call, at one place of the run: the blocks that it may reach, what it answers, which blocks it leaves otherwise. Each entry is run by itself; where the run comes to the call again, the entry is taken.
-/
import Derived.Test.YtoofpgianedgnaaGreatVaiC
set_option linter.unusedVariables false
set_option linter.unusedSimpArgs false
namespace Go.Vai
open Go
variable {β : Type} {fl : β} {good : β → Prop} {P : Program} {φ ψ : Emb} {h : Heap} {w : World}

structure Ent where
  f : Nat
  nx : Nat
  args : List Value
  bl : List (Nat × MObj)
  v : Value
  d : List (Nat × MObj)
  nx2 : Nat

def MObj.liveB : MObj → Bool
  | .dead .. => false
  | _ => true

noncomputable def MObj.objK (m : MObj) (κ : AObj → β) : β := match m with
  | .cells cs e op => layN cs .nil 0 fun c n => κ (.cells n c e op)
  | .map es clock => κ (.map es clock)
  | .dead n e => κ (.dead n e)

noncomputable def mkTo : List (Nat × MObj) → T AObj → T AObj
  | [], t => t
  | p :: l, t => (mkTo l t).upd p.1 p.2.obj
noncomputable def updK : List (Nat × MObj) → T AObj → (T AObj → β) → β
  | [], t, κ => κ t
  | p :: l, t, κ => updK l t fun t => p.2.objK fun o => T.set t p.1 o κ

/-- the same, of what is remembered -/
noncomputable def mkM : List (Nat × MObj) → T MObj
  | [] => .nil
  | p :: l => (mkM l).upd p.1 p.2
noncomputable def memK : List (Nat × MObj) → (T MObj → β) → β
  | [], κ => κ .nil
  | p :: l, κ => memK l fun t => T.set t p.1 p.2 κ

def lk : List (Nat × MObj) → Nat → Option MObj
  | [], _ => none
  | p :: l, b => match Nat.beq p.1 b with
    | true => some p.2
    | false => lk l b

theorem objK_eq (m : MObj) (κ : AObj → β) : m.objK κ = κ m.obj := by
  cases m with
  | cells cs e op => simp only [MObj.objK, MObj.obj]; rw [layN_eq, Nat.zero_add]
  | map es clock => rfl
  | dead n e => rfl
theorem updK_eq : ∀ (l : List (Nat × MObj)) (t : T AObj) (κ : T AObj → β), updK l t κ = κ (mkTo l t) := by
  intro l
  induction l with
  | nil => intro t κ; rfl
  | cons p l ih => intro t κ; simp only [updK, mkTo]; rw [ih, objK_eq, T.set_eq]
theorem memK_eq : ∀ (l : List (Nat × MObj)) (κ : T MObj → β), memK l κ = κ (mkM l) := by
  intro l
  induction l with
  | nil => intro κ; rfl
  | cons p l ih => intro κ; simp only [memK, mkM]; rw [ih, T.set_eq]

theorem mkTo_get : ∀ {l : List (Nat × MObj)} {t : T AObj} {b : Nat}, (∀ p ∈ l, Small p.1) → Small b → (mkTo l t).get b = match lk l b with
    | some m => some m.obj
    | none => t.get b := by
  intro l
  induction l with
  | nil => intro t b _ _; rfl
  | cons p l ih =>
    intro t b hs hb
    simp only [mkTo, lk]
    rw [T.get_upd _ _ (hs p (by simp)) hb]
    cases hq : Nat.beq p.1 b with
    | true => rw [if_pos (beq_t hq)]
    | false => rw [if_neg (beq_f hq)]; exact ih (fun p hp => hs p (by simp [hp])) hb
theorem lk_mem : ∀ {l : List (Nat × MObj)} {b : Nat} {m : MObj}, lk l b = some m → (b, m) ∈ l := by
  intro l
  induction l with
  | nil => intro b m e; cases e
  | cons p l ih =>
    intro b m e
    simp only [lk] at e
    split at e
    · rename_i hq; cases e; have := beq_t hq; subst this; simp
    · exact List.mem_cons_of_mem _ (ih e)
theorem lk_some : ∀ {l : List (Nat × MObj)} {p : Nat × MObj}, p ∈ l → ∃ m, lk l p.1 = some m := by
  intro l
  induction l with
  | nil => intro p hp; cases hp
  | cons q l ih =>
    intro p hp
    simp only [lk]
    cases hq : Nat.beq q.1 p.1 with
    | true => exact ⟨_, rfl⟩
    | false =>
      rcases List.mem_cons.1 hp with rfl | hp
      · exact absurd rfl (beq_f hq)
      · exact ih hp
theorem mkM_get : ∀ {l : List (Nat × MObj)} {b : Nat}, (∀ p ∈ l, Small p.1) → Small b → (mkM l).get b = lk l b := by
  intro l
  induction l with
  | nil => intro b _ _; simp [mkM, lk, T.get_nil]
  | cons p l ih =>
    intro b hs hb
    simp only [mkM, lk]
    rw [T.get_upd _ _ (hs p (by simp)) hb]
    cases hq : Nat.beq p.1 b with
    | true => rw [if_pos (beq_t hq)]
    | false => rw [if_neg (beq_f hq)]; exact ih (fun p hp => hs p (by simp [hp])) hb

/-! ## the names of values -/
def nmL (f : Value → List Nat → Option (List Nat)) : List Value → List Nat → Option (List Nat)
  | [], acc => some acc
  | v :: vs, acc => match f v acc with
    | some acc => nmL f vs acc
    | none => none
def nm : Nat → Value → List Nat → Option (List Nat)
  | 0, _, _ => none
  | n + 1, v, acc => match v with
    | .bool _ | .int .. | .string _ | .nilFunc | .nilIface | .pointer none | .slice none _ _ | .map none => some acc
    | .pointer (some ⟨b, _, none⟩) => some (b :: acc)
    | .slice (some ⟨b, _, none⟩) _ c => match Nat.beq c anyCap with
      | true => some acc
      | false => some (b :: acc)
    | .map (some b) => some (b :: acc)
    | .func (.yield b) _ _ => some (b :: acc)
    | .func (.func _) a c => match nmL (nm n) a.toList acc with
      | some acc => nmL (nm n) c.toList acc
      | none => none
    | .iface _ x => nm n x acc
    | .agg a => nmL (nm n) a.toList acc
    | .tuple a => nmL (nm n) a.toList acc
    | _ => none
def nmE : List MapEntry → List Nat → Option (List Nat)
  | [], acc => some acc
  | e :: es, acc => match nm 8 e.key acc with
    | some acc => match nm 8 e.val acc with
      | some acc => nmE es acc
      | none => none
    | none => none
def nmM (m : MObj) (acc : List Nat) : Option (List Nat) := match m with
  | .cells cs _ _ => nmL (nm 8) cs acc
  | .map es _ => nmE es acc
  | .dead .. => none

/-- what the names of a value are good for -/
def NmOk (f : Value → List Nat → Option (List Nat)) : Prop := ∀ (φ : Emb) (v v' : Value) (acc out : List Nat), VR φ v v' → f v acc = some out →
  (∀ x ∈ acc, x ∈ out) ∧ (∀ x ∈ out, x ∈ acc ∨ φ x ≠ none) ∧ ∀ ψ : Emb, (∀ x ∈ out, φ x ≠ none → ψ x = φ x) → VR ψ v v'

theorem nmL_ok {f : Value → List Nat → Option (List Nat)} (hf : NmOk f) : ∀ (l : List Value) (acc out : List Nat), nmL f l acc = some out → ∀ (φ : Emb), (∀ (i : Nat) (v : Value), l[i]? = some v → ∃ v', VR φ v v') →
    (∀ x ∈ acc, x ∈ out) ∧ (∀ x ∈ out, x ∈ acc ∨ φ x ≠ none) ∧ ∀ ψ : Emb, (∀ x ∈ out, φ x ≠ none → ψ x = φ x) → ∀ (i : Nat) (v v' : Value), l[i]? = some v → VR φ v v' → VR ψ v v' := by
  intro l
  induction l with
  | nil =>
    intro acc out e φ _
    cases e
    exact ⟨fun _ h => h, fun _ h => .inl h, fun ψ _ i v v' hi => by simp at hi⟩
  | cons a l ih =>
    intro acc out e φ hv
    simp only [nmL] at e
    split at e <;> try contradiction
    rename_i acc2 he
    obtain ⟨a', ha'⟩ := hv 0 a (by simp)
    obtain ⟨h1, h2, h3⟩ := hf φ a a' acc acc2 ha' he
    obtain ⟨k1, k2, k3⟩ := ih acc2 out e φ (fun i v hi => hv (i + 1) v (by simpa using hi))
    refine ⟨fun x hx => k1 x (h1 x hx), fun x hx => ?_, fun ψ hψ i v v' hi hvv => ?_⟩
    · rcases k2 x hx with h | h
      · exact h2 x h
      · exact .inr h
    · cases i with
      | zero =>
        simp at hi; subst hi
        exact (hf φ a v' acc acc2 hvv he).2.2 ψ fun x hx => hψ x (k1 x hx)
      | succ i => exact k3 ψ hψ i v v' (by simpa using hi) hvv

theorem nm_ok : ∀ n, NmOk (nm n) := by
  intro n
  induction n with
  | zero => intro φ v v' acc out _ e; cases e
  | succ n ih =>
    have same : ∀ (φ : Emb) (v v' : Value) (acc out : List Nat), some acc = some out → (∀ ψ : Emb, VR ψ v v') →
        (∀ x ∈ acc, x ∈ out) ∧ (∀ x ∈ out, x ∈ acc ∨ φ x ≠ none) ∧ ∀ ψ : Emb, (∀ x ∈ out, φ x ≠ none → ψ x = φ x) → VR ψ v v' := by
      intro φ v v' acc out e k
      cases e
      exact ⟨fun _ h => h, fun _ h => .inl h, fun ψ _ => k ψ⟩
    have one : ∀ (φ : Emb) (v v' : Value) (acc out : List Nat) (b : Nat) (pl : Pl), some (b :: acc) = some out → φ b = some pl → (∀ ψ : Emb, ψ b = some pl → VR ψ v v') →
        (∀ x ∈ acc, x ∈ out) ∧ (∀ x ∈ out, x ∈ acc ∨ φ x ≠ none) ∧ ∀ ψ : Emb, (∀ x ∈ out, φ x ≠ none → ψ x = φ x) → VR ψ v v' := by
      intro φ v v' acc out b pl e hb k
      cases e
      refine ⟨fun x h => by simp [h], fun x h => ?_, fun ψ hψ => k ψ ?_⟩
      · rcases List.mem_cons.1 h with rfl | h
        · right; rw [hb]; simp
        · exact .inl h
      · rw [hψ b (by simp) (by rw [hb]; simp), hb]
    have arr : ∀ (φ : Emb) (a a' : Array Value) (acc out : List Nat), nmL (nm n) a.toList acc = some out → a.toList.length = a'.toList.length → (∀ (i : Nat) (v v' : Value), a.toList[i]? = some v → a'.toList[i]? = some v' → VR φ v v') →
        (∀ x ∈ acc, x ∈ out) ∧ (∀ x ∈ out, x ∈ acc ∨ φ x ≠ none) ∧ ∀ ψ : Emb, (∀ x ∈ out, φ x ≠ none → ψ x = φ x) → ∀ (i : Nat) (v v' : Value), a.toList[i]? = some v → a'.toList[i]? = some v' → VR ψ v v' := by
      intro φ a a' acc out e hl hva
      obtain ⟨h1, h2, h3⟩ := nmL_ok ih a.toList acc out e φ (fun i v hi => by
        have hlt : i < a.toList.length := (List.getElem?_eq_some_iff.1 hi).1
        exact ⟨a'.toList[i]'(by omega), hva i v _ hi (List.getElem?_eq_getElem (by omega))⟩)
      exact ⟨h1, h2, fun ψ hψ i v v' hi hi' => h3 ψ hψ i v v' hi (hva i v v' hi hi')⟩
    intro φ v v' acc out hv e
    cases hv with
    | bool b => exact same φ _ _ acc out e fun ψ => .bool b
    | int k m => exact same φ _ _ acc out e fun ψ => .int k m
    | string s => exact same φ _ _ acc out e fun ψ => .string s
    | nilFunc => exact same φ _ _ acc out e fun ψ => .nilFunc
    | nilIface => exact same φ _ _ acc out e fun ψ => .nilIface
    | ptrNil => exact same φ _ _ acc out e fun ψ => .ptrNil
    | ptr hb => exact one φ _ _ acc out _ _ e hb fun ψ hψ => .ptr hψ
    | sliceNil hn => exact same φ _ _ acc out e fun ψ => .sliceNil hn
    | slice hb hn hc =>
      simp only [nm] at e
      split at e
      · rename_i hq; have := beq_t hq; subst this; exact absurd hc (by unfold anyCap openCap; omega)
      · exact one φ _ _ acc out _ _ e hb fun ψ hψ => .slice hψ hn hc
    | sliceOpen hb hn hc =>
      simp only [nm] at e
      split at e
      · rename_i hq; have := beq_t hq; exact absurd this (by unfold anyCap openCap; omega)
      · exact one φ _ _ acc out _ _ e hb fun ψ hψ => .sliceOpen hψ hn hc
    | sliceAny a a' c =>
      obtain ⟨b, o, x⟩ := a
      cases x with
      | some x => simp [nm] at e
      | none =>
        simp only [nm] at e
        split at e
        · exact same φ _ _ acc out e fun ψ => .sliceAny _ a' c
        · rename_i hq; exact absurd rfl (beq_f hq)
    | mapNil => exact same φ _ _ acc out e fun ψ => .mapNil
    | map hb => exact one φ _ _ acc out _ _ e hb fun ψ hψ => .map hψ
    | yield hb => exact one φ _ _ acc out _ _ e hb fun ψ hψ => .yield hψ
    | func fn a a' c c' ha hc hva hvc =>
      simp only [nm] at e
      split at e <;> try contradiction
      rename_i acc2 he
      obtain ⟨h1, h2, h3⟩ := arr φ a a' acc acc2 he ha hva
      obtain ⟨k1, k2, k3⟩ := arr φ c c' acc2 out e hc hvc
      refine ⟨fun x hx => k1 x (h1 x hx), fun x hx => ?_, fun ψ hψ => .func fn a a' c c' ha hc (h3 ψ fun x hx => hψ x (k1 x hx)) (k3 ψ hψ)⟩
      rcases k2 x hx with h | h
      · exact h2 x h
      · exact .inr h
    | iface t hx =>
      obtain ⟨h1, h2, h3⟩ := ih φ _ _ acc out hx e
      exact ⟨h1, h2, fun ψ hψ => .iface t (h3 ψ hψ)⟩
    | agg a a' ha hva =>
      obtain ⟨h1, h2, h3⟩ := arr φ a a' acc out e ha hva
      exact ⟨h1, h2, fun ψ hψ => .agg a a' ha (h3 ψ hψ)⟩
    | tuple a a' ha hva =>
      obtain ⟨h1, h2, h3⟩ := arr φ a a' acc out e ha hva
      exact ⟨h1, h2, fun ψ hψ => .tuple a a' ha (h3 ψ hψ)⟩

theorem nmE_ok : ∀ (es es' : List MapEntry) (acc out : List Nat), nmE es acc = some out → ∀ (φ : Emb), F2 (ER φ) es es' →
    (∀ x ∈ acc, x ∈ out) ∧ (∀ x ∈ out, x ∈ acc ∨ φ x ≠ none) ∧ ∀ ψ : Emb, (∀ x ∈ out, φ x ≠ none → ψ x = φ x) → F2 (ER ψ) es es' := by
  intro es
  induction es with
  | nil =>
    intro es' acc out e φ hf
    cases e; cases hf
    exact ⟨fun _ h => h, fun _ h => .inl h, fun ψ _ => .nil⟩
  | cons a es ih =>
    intro es' acc out e φ hf
    cases hf with
    | cons ha ht =>
      simp only [nmE] at e
      split at e <;> try contradiction
      rename_i acc1 e1
      split at e <;> try contradiction
      rename_i acc2 e2
      obtain ⟨h1, h2, h3⟩ := nm_ok 8 φ _ _ acc acc1 ha.key e1
      obtain ⟨k1, k2, k3⟩ := nm_ok 8 φ _ _ acc1 acc2 ha.val e2
      obtain ⟨l1, l2, l3⟩ := ih _ acc2 out e φ ht
      refine ⟨fun x hx => l1 x (k1 x (h1 x hx)), fun x hx => ?_, fun ψ hψ => .cons ⟨h3 ψ fun x hx => hψ x (l1 x (k1 x hx)), k3 ψ fun x hx => hψ x (l1 x hx), ha.born⟩ (l3 ψ hψ)⟩
      rcases l2 x hx with h | h
      · rcases k2 x h with h | h
        · exact h2 x h
        · exact .inr h
      · exact .inr h

theorem nmM_ok {m : MObj} {acc out : List Nat} (e : nmM m acc = some out) {pl : Pl} {O : Option Obj} (hO : OR P φ m.obj pl O) (hsm : ∀ cs ety op, m = .cells cs ety op → cs.length ≤ 4611686018427387904) :
    (∀ x ∈ acc, x ∈ out) ∧ (∀ x ∈ out, x ∈ acc ∨ φ x ≠ none) ∧ ∀ ψ : Emb, (∀ x ∈ out, φ x ≠ none → ψ x = φ x) → OR P ψ m.obj pl O := by
  cases m with
  | dead n e' => cases e
  | map es clock =>
    cases O with
    | none => exact hO.elim
    | some O =>
      cases O <;> simp only [MObj.obj, OR] at hO ⊢
      obtain ⟨h1, h2⟩ := hO
      obtain ⟨k1, k2, k3⟩ := nmE_ok _ _ acc out e φ h2
      exact ⟨k1, k2, fun ψ hψ => ⟨h1, k3 ψ hψ⟩⟩
  | cells cs ety op =>
    have hlen := hsm cs ety op rfl
    cases O with
    | none => exact hO.elim
    | some O =>
      cases O <;> simp only [MObj.obj, OR] at hO ⊢
      obtain ⟨g1, g2, g3, g4, g5, g6⟩ := hO
      have look : ∀ (i : Nat) (v : Value), cs[i]? = some v → i < cs.length ∧ (lay cs .nil 0).get i = some v := by
        intro i v hi
        have hlt : i < cs.length := (List.getElem?_eq_some_iff.1 hi).1
        rw [get_lay cs .nil 0 (by omega) i (by unfold Small; omega), if_pos (by omega)]
        exact ⟨hlt, by simpa using hi⟩
      obtain ⟨k1, k2, k3⟩ := nmL_ok (nm_ok 8) cs acc out e φ (fun i v hi => by
        obtain ⟨a, b⟩ := look i v hi
        obtain ⟨v', _, hv⟩ := g6 i v b a
        exact ⟨v', hv⟩)
      refine ⟨k1, k2, fun ψ hψ => ⟨g1, g2, g3, g4, g5, fun i v hg hi => ?_⟩⟩
      obtain ⟨v', a, b⟩ := g6 i v hg hi
      rw [get_lay cs .nil 0 (by omega) i (by unfold Small; omega), if_pos (by omega)] at hg
      exact ⟨v', a, k3 ψ hψ i v v' (by simpa using hg) b⟩

/-! ## what is reached -/
noncomputable def dfs (mt : T MObj) : Nat → List Nat → T Unit → Option (T Unit)
  | 0, _, _ => none
  | _ + 1, [], vis => some vis
  | k + 1, b :: st, vis => match vis.get b with
    | some _ => dfs mt k st vis
    | none => match mt.get b with
      | none => none
      | some m => match nmM m st with
        | some st => T.set vis b () fun vis => dfs mt k st vis
        | none => none

theorem dfs_ok {mt : T MObj} (hdom : ∀ b, φ b ≠ none → Small b) (hm : ∀ (b : Nat) (m : MObj), mt.get b = some m → φ b ≠ none → ∀ acc out, nmM m acc = some out → ∀ x ∈ out, x ∈ acc ∨ φ x ≠ none) :
    ∀ (k : Nat) (st : List Nat) (vis out : T Unit), dfs mt k st vis = some out → (∀ x ∈ st, φ x ≠ none) → (∀ b, Small b → vis.get b ≠ none → φ b ≠ none) → ∀ b, Small b → out.get b ≠ none → φ b ≠ none := by
  intro k
  induction k with
  | zero => intro st vis out e; cases e
  | succ k ih =>
    intro st vis out e hst hvis
    cases st with
    | nil => simp only [dfs] at e; cases e; exact hvis
    | cons b st =>
      simp only [dfs] at e
      have hb := hst b (by simp)
      have hst' : ∀ x ∈ st, φ x ≠ none := fun x hx => hst x (by simp [hx])
      split at e
      · exact ih st vis out e hst' hvis
      · split at e <;> try contradiction
        rename_i m hmg
        split at e <;> try contradiction
        rename_i st2 he
        rw [T.set_eq] at e
        refine ih st2 _ out e (fun x hx => ?_) (fun c hc hg => ?_)
        · rcases hm b m hmg hb st st2 he x hx with h1 | h1
          · exact hst' x h1
          · exact h1
        · rw [T.get_upd _ _ (hdom b hb) hc] at hg
          split at hg
          · rename_i he; subst he; exact hb
          · exact hvis c hc hg

noncomputable def isKeyB (mt : T MObj) (b : Nat) : Bool := match mt.get b with
  | some _ => true
  | none => false
noncomputable def keysB (mt : T MObj) : List Nat → Bool
  | [] => true
  | b :: l => match mt.get b with
    | some _ => keysB mt l
    | none => false
theorem keysB_mem {mt : T MObj} : ∀ {l : List Nat}, keysB mt l = true → ∀ x ∈ l, mt.get x ≠ none := by
  intro l
  induction l with
  | nil => intro _ x hx; cases hx
  | cons b l ih =>
    intro e x hx
    simp only [keysB] at e
    split at e <;> try contradiction
    rename_i m hb
    rcases List.mem_cons.1 hx with rfl | hx
    · rw [hb]; simp
    · exact ih e x hx

def shortB : MObj → Bool
  | .cells cs _ _ => Nat.ble cs.length 1000000000000
  | _ => true

/-- what is asked of an entry by itself -/
noncomputable def Ent.fitB (e : Ent) : Bool :=
  memK e.bl fun mt => Nat.ble (Nat.succ e.nx) e.nx2 && Nat.ble e.nx2 1000000000000 &&
    (e.bl.all fun p => Nat.ble (Nat.succ p.1) e.nx && p.2.liveB && shortB p.2 && match nmM p.2 [] with | some l => keysB mt l | none => false) &&
    (e.d.all fun p => Nat.ble (Nat.succ p.1) e.nx2 && (Nat.ble e.nx p.1 || isKeyB mt p.1)) &&
    match nmL (nm 8) e.args [] with
      | some st => keysB mt st && match dfs mt 1000000000 st .nil with
        | some vis => e.bl.all fun p => match vis.get p.1 with | some _ => true | none => false
        | none => false
      | none => false

structure Ent.Fit (e : Ent) : Prop where
  n1 : e.nx < e.nx2
  n2 : e.nx2 ≤ 1000000000000
  bl : ∀ p ∈ e.bl, p.1 < e.nx ∧ p.2.liveB = true ∧ shortB p.2 = true ∧ ∃ l, nmM p.2 [] = some l ∧ ∀ x ∈ l, Small x → lk e.bl x ≠ none
  d : ∀ p ∈ e.d, p.1 < e.nx2 ∧ (e.nx ≤ p.1 ∨ lk e.bl p.1 ≠ none)
  args : ∃ st vis, nmL (nm 8) e.args [] = some st ∧ (∀ x ∈ st, Small x → lk e.bl x ≠ none) ∧ dfs (mkM e.bl) 1000000000 st .nil = some vis ∧ ∀ p ∈ e.bl, vis.get p.1 ≠ none

theorem Ent.Fit.of {e : Ent} (he : e.fitB = true) : e.Fit := by
  unfold Ent.fitB at he
  rw [memK_eq] at he
  simp only [Bool.and_eq_true, List.all_eq_true] at he
  obtain ⟨⟨⟨⟨h1, h2⟩, h3⟩, h4⟩, h5⟩ := he
  have h1 := lt_of_ble h1; have h2 := ble_t h2
  have sm : ∀ p ∈ e.bl, Small p.1 := fun p hp => by have := lt_of_ble (h3 p hp).1.1.1; unfold Small; omega
  have key : ∀ x, Small x → (mkM e.bl).get x ≠ none → lk e.bl x ≠ none := by
    intro x hx hg
    rwa [mkM_get sm hx] at hg
  refine ⟨h1, h2, fun p hp => ?_, fun p hp => ?_, ?_⟩
  · obtain ⟨⟨⟨a, b⟩, c⟩, d⟩ := h3 p hp
    refine ⟨lt_of_ble a, b, c, ?_⟩
    split at d <;> try contradiction
    rename_i l hl
    exact ⟨l, hl, fun x hx hsx => key x hsx (keysB_mem d x hx)⟩
  · obtain ⟨a, d⟩ := h4 p hp
    refine ⟨lt_of_ble a, ?_⟩
    simp only [Bool.or_eq_true] at d
    rcases d with d | d
    · exact .inl (ble_t d)
    · right
      unfold isKeyB at d
      split at d <;> try contradiction
      rename_i m hm
      exact key p.1 (by have := lt_of_ble a; unfold Small; omega) (by rw [hm]; simp)
  · split at h5 <;> try contradiction
    rename_i st hst
    simp only [Bool.and_eq_true] at h5
    obtain ⟨k1, k2⟩ := h5
    split at k2 <;> try contradiction
    rename_i vis hvis
    refine ⟨st, vis, hst, fun x hx hsx => key x hsx (keysB_mem k1 x hx), hvis, fun p hp => ?_⟩
    rw [List.all_eq_true] at k2
    have := k2 p hp
    split at this <;> try contradiction
    rename_i u hu
    rw [hu]; simp

noncomputable def Ent.hp (e : Ent) : Heap := ⟨e.nx, mkTo e.bl .nil, 0⟩
noncomputable def Ent.hp2 (e : Ent) : Heap := ⟨e.nx2, mkTo e.d (mkTo e.bl .nil), 0⟩

theorem Ent.Fit.smB {e : Ent} (hf : e.Fit) : ∀ p ∈ e.bl, Small p.1 := fun p hp => by have := (hf.bl p hp).1; have := hf.n1; have := hf.n2; unfold Small; omega
theorem Ent.Fit.smD {e : Ent} (hf : e.Fit) : ∀ p ∈ e.d, Small p.1 := fun p hp => by have := (hf.d p hp).1; have := hf.n2; unfold Small; omega
theorem Ent.Fit.get {e : Ent} (hf : e.Fit) {b : Nat} (hb : Small b) : e.hp.bl.get b = (lk e.bl b).map MObj.obj := by
  show (mkTo e.bl .nil).get b = _
  rw [mkTo_get hf.smB hb]
  cases lk e.bl b with
  | none => simp [T.get_nil]
  | some m => rfl
theorem Ent.Fit.get2 {e : Ent} (hf : e.Fit) {b : Nat} (hb : Small b) : e.hp2.bl.get b = match lk e.d b with | some m => some m.obj | none => (lk e.bl b).map MObj.obj := by
  show (mkTo e.d _).get b = _
  rw [mkTo_get hf.smD hb]
  cases lk e.d b with
  | none => exact hf.get hb
  | some m => rfl

theorem MObj.liveB_live {m : MObj} (hm : m.liveB = true) : m.obj.live := by
  cases m <;> first | trivial | cases hm
theorem shortB_le {m : MObj} (hm : shortB m = true) : ∀ cs ety op, m = .cells cs ety op → cs.length ≤ 4611686018427387904 := by
  rintro cs ety op rfl
  have := ble_t (a := cs.length) hm
  omega

/-- each of its blocks has a place -/
theorem Ent.Fit.placed {e : Ent} (hf : e.Fit) (hdom : ∀ b, φ b ≠ none → Small b) (hob : ∀ b m pl, lk e.bl b = some m → φ b = some pl → ∃ O, OR P φ m.obj pl O) {args' : List Value} (ha : F2 (VR φ) e.args args') :
    ∀ b, Small b → lk e.bl b ≠ none → φ b ≠ none := by
  obtain ⟨st, vis, h1, _, h3, h4⟩ := hf.args
  have hst := nmL_ok (nm_ok 8) e.args [] st h1 φ (fun i v hi => by obtain ⟨v', _, hv⟩ := ha.get i v hi; exact ⟨v', hv⟩)
  have := dfs_ok (mt := mkM e.bl) hdom (fun b m hg hb acc out hn x hx => by
    rw [mkM_get hf.smB (hdom b hb)] at hg
    cases hp : φ b with
    | none => exact absurd hp hb
    | some pl =>
      obtain ⟨O, hO⟩ := hob b m pl hg hp
      exact (nmM_ok hn hO (shortB_le (hf.bl _ (lk_mem hg)).2.2.1)).2.1 x hx) 1000000000 st .nil vis h3 (fun x hx => by
        rcases hst.2.1 x hx with h | h
        · cases h
        · exact h) (fun b _ hg => by rw [T.get_nil] at hg; exact absurd rfl hg)
  intro b hb hl
  cases hq : lk e.bl b with
  | none => exact absurd hq hl
  | some m => exact this b hb (h4 _ (lk_mem hq))

/-! ## an entry is so -/
def EntOk (P : Program) (e : Ent) : Prop := ∀ (φ : Emb) (w : World) (args' : List Value), F2 (VR φ) e.args args' → HR P φ e.hp w →
  CallTo (fun p : Prop => p) P φ e.hp w (fun v h => v = e.v ∧ h = e.hp2) e.f args'.toArray

/-- the blocks at the call's end, as the entry has them -/
noncomputable def Ent.endB (e : Ent) (h : Heap) : Bool :=
  Nat.ble h.nx e.nx2 && (e.d.all fun p => sameObj (h.bl.get p.1) p.2) && memK e.d fun dt => e.bl.all fun p => match dt.get p.1 with
    | some _ => true
    | none => sameObj (h.bl.get p.1) p.2

noncomputable def Ent.runB (e : Ent) (pr : Prims Bool) (P : Program) (fuel : Nat) : Bool :=
  updK e.bl .nil fun bl => callF false noPr P (run false pr P fuel) e.f e.args ⟨e.nx, bl, 0⟩ fun v h => veq 8 v e.v && e.endB h

theorem Ent.ok (hm : P.follows .mixedOrders = true) {pr : Prims Bool} (hp : PrimsOk yes pr P) {e : Ent} (hf : e.Fit) {fuel : Nat} (hrun : e.runB pr P fuel = true) : EntOk P e := by
  intro φ w args' ha hr
  unfold Ent.runB at hrun
  rw [updK_eq] at hrun
  have hc := callF_sound (good := yes) (w := w) yes_not (noPrims (P := P)) (run_sound yes_not hp (draw_sound yes_not hp hm) fuel).1 ha hr hrun
  refine ⟨hc.1, Calls.mono hc.2 ?_⟩
  rintro en w' ⟨φ', v, v', h', rfl, g1, g2, g3, g4⟩
  have hdomS : ∀ (ψ : Emb) (hh : Heap) (ww : World), HR P ψ hh ww → ∀ b, ψ b ≠ none → Small b := by
    intro ψ hh ww hrr b hb
    cases hq : ψ b with
    | none => exact absurd hq hb
    | some pl => have := (hrr.dom b pl hq).1; have := hrr.nxs; unfold Small; omega
  have g1 : (veq 8 v e.v && e.endB h') = true := g1
  simp only [Ent.endB, Bool.and_eq_true, List.all_eq_true] at g1
  obtain ⟨gv, ⟨gn, gd⟩, gb⟩ := g1
  have gv := veq_eq 8 _ _ gv
  have gn := ble_t gn
  rw [memK_eq, List.all_eq_true] at gb
  subst gv
  have n1 := hf.n1; have n2 := hf.n2
  -- each block of the end is as the run left it
  have each : ∀ b o, Small b → e.hp2.bl.get b = some o → ∃ m, o = m.obj ∧ sameObj (h'.bl.get b) m = true := by
    intro b o hb ho
    rw [hf.get2 hb] at ho
    cases hq : lk e.d b with
    | some m =>
      rw [hq] at ho; cases ho
      exact ⟨m, rfl, gd _ (lk_mem hq)⟩
    | none =>
      rw [hq] at ho
      cases hq2 : lk e.bl b with
      | none => rw [hq2] at ho; cases ho
      | some m =>
        rw [hq2] at ho; cases ho
        refine ⟨m, rfl, ?_⟩
        have := gb _ (lk_mem hq2)
        rw [mkM_get hf.smD hb, hq] at this
        exact this
  have hplaced := hf.placed (φ := φ) (P := P) (hdomS φ _ _ hr) (fun b m pl hl hp => by
    have hsb := hdomS φ _ _ hr b (by rw [hp]; simp)
    exact ⟨_, hr.obj b m.obj pl (by rw [hf.get hsb, hl]; rfl) hp⟩) ha
  refine ⟨φ', e.v, v', e.hp2, rfl, ⟨rfl, rfl⟩, g2, ⟨?_, ?_, ?_, ?_, ?_, Nat.zero_le _⟩, ⟨g4.sub, g4.new, Nat.le_of_lt n1, g4.size, g4.frC, ?_, g4.tape, g4.os, g4.output, g4.fz, rfl, ?_⟩⟩
  · intro b o pl ho hp
    obtain ⟨m, rfl, hs⟩ := each b o (hdomS φ' _ _ g3 b (by rw [hp]; simp)) ho
    obtain ⟨o', e1, _, e3⟩ := sameObj_OR (P := P) (φ := φ') hs
    exact e3 (g3.obj b o' pl e1 hp)
  · intro b pl hp; have := g3.dom b pl hp; exact ⟨Nat.lt_of_lt_of_le this.1 gn, this.2⟩
  · intro b o hb ho
    rw [hf.get2 hb] at ho
    show b < e.nx2
    cases hq : lk e.d b with
    | some m => exact (hf.d _ (lk_mem hq)).1
    | none =>
      rw [hq] at ho
      cases hq2 : lk e.bl b with
      | none => rw [hq2] at ho; cases ho
      | some m => have := (hf.bl _ (lk_mem hq2)).1; simp only at this; omega
  · show e.nx2 < 2 ^ 199; omega
  · intro b b' o o' pl pl' q1 q2 l1 l2 p1 p2 eB
    obtain ⟨m, rfl, hs⟩ := each b o (hdomS φ' _ _ g3 b (by rw [p1]; simp)) q1
    obtain ⟨m', rfl, hs'⟩ := each b' o' (hdomS φ' _ _ g3 b' (by rw [p2]; simp)) q2
    obtain ⟨o1, e1, e2, _⟩ := sameObj_OR (P := P) (φ := φ') hs
    obtain ⟨o2, f1, f2, _⟩ := sameObj_OR (P := P) (φ := φ') hs'
    exact g3.inj b b' o1 o2 pl pl' e1 f1 (e2.1 l1) (f2.1 l2) p1 p2 eB
  · intro b hb hn
    have hb' : b < e.nx := hb
    have hsb : Small b := by unfold Small; omega
    rw [hf.get2 hsb, hf.get hsb]
    cases hq : lk e.d b with
    | none => rfl
    | some m =>
      rcases (hf.d _ (lk_mem hq)).2 with h1 | h1
      · simp only at h1; omega
      · exact absurd hn (hplaced b hsb h1)
  · intro b hb; exact absurd hb (Nat.not_lt_zero _)

/-! ## an entry is taken -/
theorem sameObj_back {o : AObj} {m : MObj} (hs : sameObj (some o) m = true) (hl : m.liveB = true) (hsh : shortB m = true) {pl : Pl} {O : Option Obj} (hO : OR P φ m.obj pl O) : OR P φ o pl O := by
  unfold sameObj at hs
  split at hs <;> try contradiction
  · rename_i n c e op cs e' op' heq
    cases heq
    simp only [Bool.and_eq_true] at hs
    obtain ⟨⟨⟨h1, h2⟩, h3⟩, h4⟩ := hs
    have h1 := beq_t h1; have h2 := beq_t h2; have h3 : op = op' := by simpa using h3
    subst h1; subst h2; subst h3
    cases O with
    | none => exact hO.elim
    | some O =>
      cases O <;> simp only [MObj.obj, OR] at hO ⊢
      obtain ⟨g1, g2, g3, g4, g5, g6⟩ := hO
      refine ⟨g1, g2, g3, g4, g5, fun i v hg hi => ?_⟩
      have hget : cs[i]? = some (cs[i]'hi) := List.getElem?_eq_getElem hi
      have := sameCells_get h4 i _ hget
      rw [Nat.zero_add, hg] at this
      cases this
      refine g6 i _ ?_ hi
      rw [get_lay cs .nil 0 (by omega) i (by unfold Small; omega), if_pos (by omega)]
      simp
  · rename_i es clock es' clock' heq
    cases heq
    simp only [Bool.and_eq_true] at hs
    have h1 := sameEntries_eq hs.1; have h2 := beq_t hs.2
    subst h1; subst h2
    exact hO

noncomputable def Ent.useB (fl : β) (e : Ent) (args : List Value) (h : Heap) (κ : Value → Heap → β) : β :=
  match veqL (veq 8) args e.args && Nat.beq h.lo 0 && e.bl.all fun p => sameObj (h.bl.get p.1) p.2 with
  | true => updK e.d h.bl fun bl => κ e.v ⟨e.nx2, bl, 0⟩
  | false => fl

noncomputable def useT (fl : β) (tab : List Ent) (f : Nat) (args : List Value) (h : Heap) (κ : Value → Heap → β) : β :=
  match tab with
  | [] => fl
  | e :: tab => match Nat.beq e.nx h.nx && Nat.beq e.f f with
    | true => e.useB fl args h κ
    | false => useT fl tab f args h κ

noncomputable def prTab (fl : β) (base : Prims β) (cut : Nat → Bool) (tab : List Ent) : Prims β :=
  ⟨fun f => match cut f with | true => some (useT fl tab f) | false => base.fn f, base.both⟩

theorem Ent.use_sound (hfl : ¬ good fl) {e : Ent} (hf : e.Fit) (he : EntOk P e) (hnx : e.nx = h.nx) (hr : HR P φ h w) {args args' : List Value} (ha : F2 (VR φ) args args') {κ : Value → Heap → β} (hg : good (e.useB fl args h κ)) :
    CallTo good P φ h w κ e.f args'.toArray := by
  unfold Ent.useB at hg
  split at hg <;> try exact absurd hg hfl
  rename_i hc
  simp only [Bool.and_eq_true, List.all_eq_true] at hc
  obtain ⟨⟨c1, c2⟩, c3⟩ := hc
  have c1 := veqL_eq (veq_eq 8) _ _ c1; have c2 := beq_t c2
  subst c1
  rw [updK_eq] at hg
  have n1 := hf.n1; have n2 := hf.n2
  have hsm : ∀ b, φ b ≠ none → Small b := by
    intro b hb
    cases hq : φ b with
    | none => exact absurd hq hb
    | some pl => have := (hr.dom b pl hq).1; have := hr.nxs; unfold Small; omega
  -- the blocks that the call may reach
  let ψ : Emb := fun b => match lk e.bl b with | some _ => φ b | none => none
  have ψ_some : ∀ {b pl}, ψ b = some pl → φ b = some pl ∧ ∃ m, lk e.bl b = some m := by
    intro b pl hb
    simp only [ψ] at hb
    split at hb
    · rename_i m hm; exact ⟨hb, m, hm⟩
    · cases hb
  have ψ_eq : ∀ {b}, lk e.bl b ≠ none → ψ b = φ b := by
    intro b hb
    simp only [ψ]
    split
    · rfl
    · rename_i hq; exact absurd hq hb
  have subψ : Sub ψ φ := fun b pl hb => (ψ_some hb).1
  have same : ∀ {b m}, lk e.bl b = some m → ∃ o, h.bl.get b = some o ∧ sameObj (some o) m = true ∧ o.live := by
    intro b m hm
    have hs := c3 _ (lk_mem hm)
    obtain ⟨o, e1, e2, _⟩ := sameObj_OR (P := P) (φ := φ) hs
    simp only at e1
    exact ⟨o, e1, by rw [← e1]; exact hs, e2.1 (MObj.liveB_live (hf.bl _ (lk_mem hm)).2.1)⟩
  have oldOR : ∀ {b m pl}, lk e.bl b = some m → φ b = some pl → OR P φ m.obj pl w.heap[pl.B]? := by
    intro b m pl hm hp
    have hs := c3 _ (lk_mem hm)
    obtain ⟨o, e1, _, e3⟩ := sameObj_OR (P := P) (φ := φ) hs
    exact e3 (hr.obj b o pl e1 hp)
  have hrS : HR P ψ e.hp w := by
    refine ⟨?_, ?_, ?_, ?_, ?_, Nat.zero_le _⟩
    · intro b o pl ho hp
      obtain ⟨hp, m, hm⟩ := ψ_some hp
      rw [hf.get (hsm b (by rw [hp]; simp)), hm] at ho
      cases ho
      obtain ⟨_, _, hsh, l, hl, hk⟩ := hf.bl _ (lk_mem hm)
      refine (nmM_ok hl (oldOR hm hp) (shortB_le hsh)).2.2 ψ fun x hx hxp => ψ_eq (hk x hx (hsm x hxp))
    · intro b pl hp
      have := hr.dom b pl (ψ_some hp).1
      exact ⟨by show b < e.nx; omega, this.2⟩
    · intro b o hb ho
      rw [hf.get hb] at ho
      cases hq : lk e.bl b with
      | none => rw [hq] at ho; cases ho
      | some m => exact (hf.bl _ (lk_mem hq)).1
    · show e.nx < 2 ^ 199; omega
    · intro b b' o o' pl pl' g1 g2 l1 l2 p1 p2 eB
      obtain ⟨p1, m1, k1⟩ := ψ_some p1
      obtain ⟨p2, m2, k2⟩ := ψ_some p2
      obtain ⟨o1, x1, _, y1⟩ := same k1
      obtain ⟨o2, x2, _, y2⟩ := same k2
      exact hr.inj b b' o1 o2 pl pl' x1 x2 y1 y2 p1 p2 eB
  have haS : F2 (VR ψ) e.args args' := by
    obtain ⟨st, _, hst, hk, _, _⟩ := hf.args
    have hn := nmL_ok (nm_ok 8) e.args [] st hst φ (fun i v hi => by obtain ⟨v', _, hv⟩ := ha.get i v hi; exact ⟨v', hv⟩)
    refine F2.of_get ha.length fun i v v' hi hi' => ?_
    obtain ⟨v2, e2, hv⟩ := ha.get i v hi
    rw [hi'] at e2; cases e2
    exact hn.2.2 ψ (fun x hx hxp => ψ_eq (hk x hx (hsm x hxp))) i v v' hi hv
  have hc := he ψ w args' haS hrS
  refine ⟨hc.1, Calls.mono hc.2 ?_⟩
  rintro en w' ⟨φ1, v, v', h1, rfl, ⟨rfl, rfl⟩, g2, g3, g4⟩
  -- all places
  let χ : Emb := fun b => match φ1 b with | some pl => some pl | none => φ b
  have χ_new : ∀ {b pl}, φ1 b = some pl → χ b = some pl := fun {b pl} hb => by simp only [χ, hb]
  have χ_old : ∀ {b}, φ1 b = none → χ b = φ b := fun {b} hb => by simp only [χ, hb]
  have sub1 : Sub φ1 χ := fun b pl hb => χ_new hb
  have fresh : ∀ {b pl}, φ1 b = some pl → ψ b = none → e.nx ≤ b := fun {b pl} hb hn => (g4.new b pl hn hb).1
  have sub0 : Sub φ χ := by
    intro b pl hb
    cases hq : φ1 b with
    | none => rw [χ_old hq]; exact hb
    | some p =>
      rw [χ_new hq]
      cases hs : ψ b with
      | none => have := fresh hq hs; have := (hr.dom b pl hb).1; omega
      | some p' =>
        have e1 := (ψ_some hs).1
        rw [hb] at e1; cases e1
        have := g4.sub b pl hs
        rw [hq] at this; exact this
  -- a name that only stands outside
  have outer : ∀ {b pl}, φ1 b = none → φ b = some pl → lk e.bl b = none := by
    intro b pl h1 hb
    cases hq : lk e.bl b with
    | none => rfl
    | some m =>
      have hs : ψ b = some pl := by rw [ψ_eq (by rw [hq]; simp)]; exact hb
      have := g4.sub b pl hs
      rw [h1] at this; cases this
  have getD : ∀ {b}, Small b → (mkTo e.d h.bl).get b = match lk e.d b with | some m => some m.obj | none => h.bl.get b := fun {b} hb => mkTo_get hf.smD hb
  have dKey : ∀ {b m}, lk e.d b = some m → e.nx ≤ b ∨ lk e.bl b ≠ none := fun {b m} hb => (hf.d _ (lk_mem hb)).2
  -- of a block with a place at the call's end: the object there
  have there : ∀ {b o pl}, Small b → (mkTo e.d h.bl).get b = some o → φ1 b = some pl → ∃ m, e.hp2.bl.get b = some m.obj ∧ (o = m.obj ∨ (sameObj (some o) m = true ∧ m.liveB = true ∧ shortB m = true)) ∧ (o.live → m.obj.live) := by
    intro b o pl hb ho hp
    rw [getD hb] at ho
    cases hq : lk e.d b with
    | some m =>
      rw [hq] at ho; cases ho
      exact ⟨m, by rw [hf.get2 hb, hq], .inl rfl, id⟩
    | none =>
      rw [hq] at ho
      cases hs : ψ b with
      | none => have := fresh hp hs; have := hr.keys b o hb ho; omega
      | some p' =>
        obtain ⟨_, m, hm⟩ := ψ_some hs
        obtain ⟨o2, x1, x2, _⟩ := same hm
        simp only at ho
        rw [ho] at x1; cases x1
        have hl := (hf.bl _ (lk_mem hm)).2.1
        exact ⟨m, by rw [hf.get2 hb, hq, hm]; rfl, .inr ⟨x2, hl, (hf.bl _ (lk_mem hm)).2.2.1⟩, fun _ => MObj.liveB_live hl⟩
  have aside : ∀ {b o pl}, Small b → (mkTo e.d h.bl).get b = some o → φ1 b = none → φ b = some pl → h.bl.get b = some o ∧ (o.live → ∀ b0 pl0, ψ b0 = some pl0 → pl0.B ≠ pl.B) := by
    intro b o pl hb ho h1 hp
    have hout := outer h1 hp
    rw [getD hb] at ho
    cases hq : lk e.d b with
    | some m =>
      rcases dKey hq with k | k
      · have := (hr.dom b pl hp).1; omega
      · exact absurd hout k
    | none =>
      rw [hq] at ho
      refine ⟨ho, fun hl b0 pl0 h0 eB => ?_⟩
      obtain ⟨h0, m, hm⟩ := ψ_some h0
      obtain ⟨o0, x1, _, x3⟩ := same hm
      have := hr.inj b0 b o0 o pl0 pl x1 ho x3 hl h0 hp eB
      subst this
      rw [hm] at hout; cases hout
  have hsm1 : ∀ b pl, χ b = some pl → Small b := by
    intro b pl hb
    cases hq : φ1 b with
    | none => rw [χ_old hq] at hb; exact hsm b (by rw [hb]; simp)
    | some p => have := (g3.dom b p hq).1; have := g3.nxs; unfold Small; omega
  refine ⟨χ, _, _, ⟨e.nx2, mkTo e.d h.bl, 0⟩, rfl, hg, g2.mono sub1, ⟨?_, ?_, ?_, ?_, ?_, Nat.zero_le _⟩, ⟨sub0, ?_, ?_, g4.size, ?_, ?_, g4.tape, g4.os, g4.output, g4.fz, c2.symm, ?_⟩⟩
  · intro b o pl ho hp
    have hb := hsm1 b pl hp
    cases hq : φ1 b with
    | some p =>
      rw [χ_new hq] at hp; cases hp
      obtain ⟨m, k1, k3, _⟩ := there hb ho hq
      have hO := (g3.obj b m.obj _ k1 hq).mono sub1
      rcases k3 with rfl | ⟨k3, k2, k4⟩
      · exact hO
      · exact sameObj_back k3 k2 k4 hO
    | none =>
      rw [χ_old hq] at hp
      obtain ⟨k1, k2⟩ := aside hb ho hq hp
      have hO := (hr.obj b o pl k1 hp).mono sub0
      by_cases hl : o.live
      · rw [g4.frC pl.B (hr.dom b pl hp).2 (k2 hl)]; exact hO
      · cases o <;> first | exact absurd trivial hl | skip
        simpa only [OR] using hO
  · intro b pl hp
    cases hq : φ1 b with
    | some p => rw [χ_new hq] at hp; cases hp; exact g3.dom b _ hq
    | none =>
      rw [χ_old hq] at hp
      have := hr.dom b pl hp
      exact ⟨by show b < e.nx2; omega, Nat.lt_of_lt_of_le this.2 g4.size⟩
  · intro b o hb ho
    show b < e.nx2
    simp only at ho
    rw [getD hb] at ho
    cases hq : lk e.d b with
    | some m => exact (hf.d _ (lk_mem hq)).1
    | none => rw [hq] at ho; have := hr.keys b o hb ho; omega
  · show e.nx2 < 2 ^ 199; omega
  · intro b b' o o' pl pl' q1 q2 l1 l2 p1 p2 eB
    have hb := hsm1 b pl p1; have hb' := hsm1 b' pl' p2
    have mixed : ∀ {x y ox oy px py}, Small x → Small y → (mkTo e.d h.bl).get x = some ox → (mkTo e.d h.bl).get y = some oy → ox.live → oy.live → φ1 x = some px → φ1 y = none → φ y = some py → px.B = py.B → x = y := by
      intro x y ox oy px py hx hy gx gy lx ly e1 e2 e3 eB
      obtain ⟨_, k2⟩ := aside hy gy e2 e3
      cases hs : ψ x with
      | some p =>
        have := g4.sub x p hs
        rw [e1] at this; cases this
        exact absurd eB (k2 ly x px hs)
      | none =>
        rcases (g4.new x px hs e1).2 with h3 | ⟨b0, pl0, h3, h4⟩
        · have := (hr.dom y py e3).2; omega
        · exact absurd (h4.trans eB) (k2 ly b0 pl0 h3)
    cases r1 : φ1 b with
    | some s1 =>
      rw [χ_new r1] at p1; cases p1
      cases r2 : φ1 b' with
      | some s2 =>
        rw [χ_new r2] at p2; cases p2
        obtain ⟨m, k1, _, k4⟩ := there hb q1 r1
        obtain ⟨m', k1', _, k4'⟩ := there hb' q2 r2
        exact g3.inj b b' _ _ _ _ k1 k1' (k4 l1) (k4' l2) r1 r2 eB
      | none =>
        rw [χ_old r2] at p2
        exact mixed hb hb' q1 q2 l1 l2 r1 r2 p2 eB
    | none =>
      rw [χ_old r1] at p1
      cases r2 : φ1 b' with
      | some s2 =>
        rw [χ_new r2] at p2; cases p2
        exact (mixed hb' hb q2 q1 l2 l1 r2 r1 p1 eB.symm).symm
      | none =>
        rw [χ_old r2] at p2
        exact hr.inj b b' o o' pl pl' (aside hb q1 r1 p1).1 (aside hb' q2 r2 p2).1 l1 l2 p1 p2 eB
  · intro b pl hn hb
    cases hq : φ1 b with
    | none => rw [χ_old hq, hn] at hb; cases hb
    | some p =>
      rw [χ_new hq] at hb; cases hb
      have hs : ψ b = none := by
        cases hs : ψ b with
        | none => rfl
        | some p' => have := (ψ_some hs).1; rw [hn] at this; cases this
      obtain ⟨k1, k2⟩ := g4.new b _ hs hq
      refine ⟨by have : e.nx ≤ b := k1; omega, ?_⟩
      rcases k2 with k2 | ⟨b0, pl0, k2, k3⟩
      · exact .inl k2
      · exact .inr ⟨b0, pl0, (ψ_some k2).1, k3⟩
  · show h.nx ≤ e.nx2; omega
  · intro B hB hn
    exact g4.frC B hB fun b pl hb => hn b pl (ψ_some hb).1
  · intro b hb hn
    have hsb : Small b := by have := hr.nxs; unfold Small; omega
    show (mkTo e.d h.bl).get b = h.bl.get b
    rw [getD hsb]
    cases hq : lk e.d b with
    | none => rfl
    | some m =>
      rcases dKey hq with k | k
      · omega
      · have hpl := hf.placed (φ := φ) (P := P) hsm (fun b m pl hl hp => ⟨_, oldOR hl hp⟩) ha b hsb k
        exact absurd hn hpl
  · intro b hb; rw [c2] at hb; exact absurd hb (Nat.not_lt_zero _)

theorem useT_sound (hfl : ¬ good fl) : ∀ {tab : List Ent}, (∀ e ∈ tab, e.Fit ∧ EntOk P e) → ∀ {f : Nat}, HR P φ h w → ∀ {args args' : List Value}, F2 (VR φ) args args' → ∀ {κ : Value → Heap → β}, good (useT fl tab f args h κ) → CallTo good P φ h w κ f args'.toArray := by
  intro tab
  induction tab with
  | nil => intro _ f _ args args' _ κ hg; exact absurd hg hfl
  | cons e tab ih =>
    intro ht f hr args args' ha κ hg
    simp only [useT] at hg
    split at hg
    · rename_i hc
      simp only [Bool.and_eq_true] at hc
      have c1 := beq_t hc.1; have c2 := beq_t hc.2
      subst c2
      obtain ⟨h1, h2⟩ := ht e (by simp)
      exact Ent.use_sound hfl h1 h2 c1 hr ha hg
    · exact ih (fun e he => ht e (by simp [he])) hr ha hg

theorem prTab_ok (hfl : ¬ good fl) {base : Prims β} (hb : PrimsOk good base P) {cut : Nat → Bool} {tab : List Ent} (ht : ∀ e ∈ tab, e.Fit ∧ EntOk P e) : PrimsOk good (prTab fl base cut tab) P := by
  refine ⟨hb.both, fun f g hg args args' h φ w κ ha hr hgood => ?_⟩
  simp only [prTab] at hg
  split at hg
  · cases hg; exact useT_sound hfl ht hr ha hgood
  · exact hb.fn f g hg args args' h φ w κ ha hr hgood

/-- one entry, by its own run -/
theorem Ent.both (hm : P.follows .mixedOrders = true) {pr : Prims Bool} (hp : PrimsOk yes pr P) {e : Ent} {fuel : Nat} (hrun : (e.fitB && e.runB pr P fuel) = true) : e.Fit ∧ EntOk P e := by
  simp only [Bool.and_eq_true] at hrun
  exact ⟨.of hrun.1, e.ok hm hp (.of hrun.1) hrun.2⟩
theorem okNil : ∀ e ∈ ([] : List Ent), e.Fit ∧ EntOk P e := fun _ he => nomatch he
theorem okCons {e : Ent} {tab : List Ent} (h : e.Fit ∧ EntOk P e) (ht : ∀ x ∈ tab, x.Fit ∧ EntOk P x) : ∀ x ∈ e :: tab, x.Fit ∧ EntOk P x := List.forall_mem_cons.2 ⟨h, ht⟩

/-! ## short names for the texts of entries -/
def vi (n : Nat) : Value := .int .i64 (.ofNat n)
def vn (n : Nat) : Value := .int .i64 (.negSucc n)
def vb (n : Nat) : Value := .int .u8 (.ofNat n)
def vt : Value := .bool true
def vf : Value := .bool false
def vu : Value := .tuple ⟨[]⟩
def vp (b o : Nat) : Value := .pointer (some ⟨b, o, none⟩)
def pn : Value := .pointer none
def vs (b o n c : Nat) : Value := .slice (some ⟨b, o, none⟩) n c
def sn : Value := .slice none 0 0
def va (l : List Value) : Value := .agg ⟨l⟩
def vv (l : List Value) : Value := .tuple ⟨l⟩
def mc (e : Nat) (l : List Value) : MObj := .cells l e false
def mo (e : Nat) (l : List Value) : MObj := .cells l e true

/-- a list of blocks, some set, some left out; both by growing numbers -/
def mergeF : Nat → List (Nat × Option MObj) → List (Nat × MObj) → List (Nat × MObj)
  | 0, _, l => l
  | _ + 1, [], l => l
  | k + 1, (b, o) :: d, [] => match o with
    | some m => (b, m) :: mergeF k d []
    | none => mergeF k d []
  | k + 1, (b, o) :: d, (c, m) :: l => match Nat.ble (Nat.succ c) b with
    | true => (c, m) :: mergeF k ((b, o) :: d) l
    | false => match Nat.beq b c with
      | true => match o with
        | some m' => (b, m') :: mergeF k d l
        | none => mergeF k d l
      | false => match o with
        | some m' => (b, m') :: mergeF k d ((c, m) :: l)
        | none => mergeF k d ((c, m) :: l)
/-- the blocks of one entry, out of another's -/
def turned (d : List (Nat × Option MObj)) (l : List (Nat × MObj)) : List (Nat × MObj) := mergeF 1000000 d l
end Go.Vai
