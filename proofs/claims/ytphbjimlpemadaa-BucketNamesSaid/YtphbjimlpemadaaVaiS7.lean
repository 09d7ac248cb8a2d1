/-
  PROVED HERE: a part of an interpreter for the model's code, and that it is sound.
  The interpreter is sound, part 7: the operations that write.
-/
import Derived.Test.YtphbjimlpemadaaVaiS6
import Derived.Laws.Append
set_option linter.unusedVariables false
set_option linter.unusedSimpArgs false
namespace Go.Vai
open Go
variable {β : Type} {fl : β} {good : β → Prop} {P : Program} {φ : Emb} {h : Heap} {w : World} {t : TypeId}

/-- what an operation came to: a value, or nothing -/
def NextIs (nx : Next) (v : Value) : Prop := nx = .value v ∨ (nx = .skip ∧ v = undef)

/-- the outcome of an operation that may write -/
def WOut (good : β → Prop) (P : Program) (φ : Emb) (h : Heap) (w : World) (κ : Value → Heap → β) (r : Result Next) : Prop :=
  ∃ φ' v v' h' w' nx, good (κ v h') ∧ VR φ' v v' ∧ HR P φ' h' w' ∧ Ext φ φ' h h' w w' ∧ r = .ok nx w' ∧ NextIs nx v'

theorem setBlock_good (hfl : ¬ good fl) {b : Nat} {o : AObj} {κ : Heap → β} (hg : good (setBlock fl b o h κ)) : h.lo ≤ b ∧ good (κ ⟨h.nx, h.bl.upd b o, h.lo⟩) := by
  unfold setBlock at hg
  split at hg
  · rename_i hle
    rw [T.set_eq] at hg
    exact ⟨ble_t hle, hg⟩
  · exact absurd hg hfl

theorem storeV_sound (hfl : ¬ good fl) {s : Nat} (hs : szOf P t = some s) (hr : HR P φ h w) {a a' x x' : Value} {κ : Value → Heap → β} (hg : good (storeV fl s a x h κ)) (ha : VR φ a a') (hx : VR φ x x') :
    ∃ h' w', good (κ undef h') ∧ HR P φ h' w' ∧ Ext φ φ h h' w w' ∧ (Instr.storeAt t a' x').run P w = .ok () w' := by
  unfold storeV at hg
  split at hg <;> try exact absurd hg hfl
  cases ha with
  | ptr hp =>
    split at hg <;> try exact absurd hg hfl
    rename_i n c e op hb
    split at hg <;> try exact absurd hg hfl
    rename_i hl; have hl := beq_t hl
    obtain ⟨g1, g2, g3⟩ := storeN_good hfl _ _ _ _ _ hg
    obtain ⟨hlo, g3⟩ := setBlock_good hfl g3
    obtain ⟨w', k1, k2, k3⟩ := hr.storeAt hlo hb hp hx.cells g1 g2
    refine ⟨_, w', g3, k2, k3, ?_⟩
    have hsz : x'.cells.size = s := by have := hx.cells.length; simp at this hl; omega
    simp [Instr.storeAt, Instr.sureAddr, storeVar, run_size hs, hsz, k1]

/-! ## maps -/
theorem snocK_eq (x : MapEntry) (es : List MapEntry) (κ : List MapEntry → β) : snocK x es κ = κ (es ++ [x]) := by
  induction es generalizing κ with
  | nil => rfl
  | cons e es ih => simp only [snocK, ih, List.cons_append]
theorem setAt_eq (f : MapEntry → MapEntry) : ∀ (i : Nat) (es : List MapEntry) (κ : List MapEntry → β), setAt f i es κ = κ (es.modify i f) := by
  intro i es
  induction es generalizing i with
  | nil => intro κ; cases i <;> simp [setAt]
  | cons e es ih => intro κ; cases i <;> simp [setAt, ih]
theorem delAt_eq : ∀ (i : Nat) (es : List MapEntry) (κ : List MapEntry → β), delAt i es κ = κ (es.eraseIdx i) := by
  intro i es
  induction es generalizing i with
  | nil => intro κ; cases i <;> simp [delAt]
  | cons e es ih => intro κ; cases i <;> simp [delAt, ih]

/-- a map turned -/
theorem HR.mapSet (hr : HR P φ h w) {b clock clock' : Nat} (hlo : h.lo ≤ b) {es es1 : List MapEntry} {es1' : Array MapEntry} {pl : Pl} (hb : h.bl.get b = some (.map es clock)) (hp : φ b = some pl)
    (h1 : F2 (ER φ) es1 es1'.toList) :
    ∃ w', (setObj pl.B (.map es1' clock')).run P w = .ok () w' ∧ HR P φ ⟨h.nx, h.bl.upd b (.map es1 clock'), h.lo⟩ w' ∧ Ext φ φ h ⟨h.nx, h.bl.upd b (.map es1 clock'), h.lo⟩ w w' := by
  obtain ⟨es', hO, h2⟩ := hr.mapAt hb hp
  have hlt : pl.B < w.heap.size := (hr.dom b pl hp).2
  refine ⟨{ w with heap := w.heap.setIfInBounds pl.B (.map es1' clock') }, by simp [setObj, Sem.run, hO], ?_⟩
  refine hr.turn hlo hp ⟨_, hb, trivial⟩ (by simp) (fun k hk => ?_) ?_ rfl rfl rfl (.inl trivial)
  · show (w.heap.setIfInBounds pl.B (.map es1' clock'))[k]? = _
    exact Array.getElem?_setIfInBounds_ne (Ne.symm hk)
  · show OR P φ _ pl ((w.heap.setIfInBounds pl.B (.map es1' clock'))[pl.B]?)
    rw [Array.getElem?_setIfInBounds_self_of_lt hlt]
    exact ⟨rfl, h1⟩

theorem F2.modify {α γ : Type} {R : α → γ → Prop} {f : α → α} {g : γ → γ} {l : List α} {m : List γ} (hl : F2 R l m) (hfg : ∀ a b, R a b → R (f a) (g b)) (i : Nat) : F2 R (l.modify i f) (m.modify i g) := by
  induction hl generalizing i with
  | nil => simp; exact .nil
  | cons hr ht ih => cases i with
    | zero => simp; exact .cons (hfg _ _ hr) ht
    | succ i => simp; exact .cons hr (ih i)
theorem F2.eraseIdx {α γ : Type} {R : α → γ → Prop} {l : List α} {m : List γ} (hl : F2 R l m) (i : Nat) : F2 R (l.eraseIdx i) (m.eraseIdx i) := by
  induction hl generalizing i with
  | nil => simp; exact .nil
  | cons hr ht ih => cases i with
    | zero => simpa using ht
    | succ i => simp; exact .cons hr (ih i)

theorem sameBits_scal {a : Value} (hs : scal a = true) : Instr.sameBits 10000 a a = true := by
  have one : ∀ {n : Nat} {v : Value}, scal1 v = true → Instr.sameBits n v v = true := by
    intro n v hv
    cases v <;> simp [scal1] at hv <;> simp [Instr.sameBits, bbeq]
  cases a
  case agg cs =>
    simp only [scal] at hs
    simp only [Instr.sameBits, beq_self_eq_true, Bool.true_and]
    generalize cs.toList = l at hs
    induction l with
    | nil => simp
    | cons v l ih => simp only [List.all_cons, Bool.and_eq_true] at hs; simp [one hs.1]; simpa using ih hs.2
  all_goals exact one hs

theorem veqL_eq {f : Value → Value → Bool} (hf : ∀ a b, f a b = true → a = b) : ∀ (l m : List Value), veqL f l m = true → l = m := by
  intro l
  induction l with
  | nil => intro m hm; cases m <;> simp [veqL] at hm; rfl
  | cons x l ih => intro m hm; cases m with
    | nil => simp [veqL] at hm
    | cons y m => simp only [veqL, Bool.and_eq_true] at hm; rw [hf _ _ hm.1, ih _ hm.2]
theorem veq_eq : ∀ (n : Nat) (a b : Value), veq n a b = true → a = b := by
  intro n
  induction n with
  | zero => intro a b hv; simp [veq] at hv
  | succ n ih =>
    intro a b hv
    simp only [veq] at hv
    split at hv <;> try (cases hv; done)
    · simp at hv; rw [hv]
    · simp [kindEq_eq, ieqB_eq] at hv; rw [hv.1, hv.2]
    · simp [bytesEqB_eq] at hv; rw [hv]
    · rfl
    · simp only [Bool.and_eq_true] at hv; rw [beq_t hv.1, beq_t hv.2]
    · simp only [Bool.and_eq_true] at hv; rw [beq_t hv.1, beq_t hv.2]
    · simp only [Bool.and_eq_true] at hv; obtain ⟨⟨⟨h1, h2⟩, h3⟩, h4⟩ := hv; rw [beq_t h1, beq_t h2, beq_t h3, beq_t h4]
    · rfl
    · rw [beq_t hv]
    · rfl
    · rfl
    · simp only [Bool.and_eq_true] at hv; rw [beq_t hv.1, ih _ _ hv.2]
    · congr 1; exact Array.ext' (veqL_eq ih _ _ hv)
    · congr 1; exact Array.ext' (veqL_eq ih _ _ hv)
    · simp only [Bool.and_eq_true] at hv; obtain ⟨⟨h1, h2⟩, h3⟩ := hv
      rw [beq_t h1, Array.ext' (veqL_eq ih _ _ h2), Array.ext' (veqL_eq ih _ _ h3)]

theorem mapUpdateB_sound (hfl : ¬ good fl) {kt et : TypeId} (hu : P.underlying t = some (.map kt et)) (hr : HR P φ h w) {m m' k k' x x' : Value} {κ : Value → Heap → β}
    (hg : good (mapUpdateB fl P kt m k x h κ)) (hm : VR φ m m') (hk : VR φ k k') (hx : VR φ x x') :
    ∃ h' w', good (κ undef h') ∧ HR P φ h' w' ∧ Ext φ φ h h' w w' ∧ (Instr.mapUpdate t m' k' x').run P w = .ok () w' := by
  unfold mapUpdateB at hg
  split at hg <;> try exact absurd hg hfl
  rename_i hko
  have hsc := keyOk_scal hko
  have hkk := scal_eq hsc hk
  subst hkk
  have hck : ∀ em, (Instr.checkKey em 10000 kt k').run P w = .ok () w := fun em => checkKey_sound 20 10000 (by omega) kt k' em hko
  obtain ⟨u, hku⟩ := keyOk_und hko
  split at hg <;> try exact absurd hg hfl
  cases hm with
  | map hp =>
    rename_i pl
    split at hg <;> try exact absurd hg hfl
    rename_i es clock hb
    obtain ⟨es', hO, h2⟩ := hr.mapAt hb hp
    split at hg
    · rename_i i e hf
      split at hg <;> try exact absurd hg hfl
      rename_i hes
      rw [setAt_eq] at hg
      obtain ⟨hlo, hg⟩ := setBlock_good hfl hg
      obtain ⟨r', g3, g4⟩ := findAsking_sound hr hk es es'.toList 0 _ h2 hf
      cases r' with
      | none => exact g4.elim
      | some p =>
        obtain ⟨i', v'⟩ := p
        obtain ⟨rfl, _, g6, _, _⟩ := g4
        simp only [Nat.sub_zero] at g6
        obtain ⟨e', he1, he2⟩ := h2.get _ _ g6
        have hke := veq_eq 3 _ _ hes
        have hkey : e'.key = k' := by
          have h3 := he2.key
          rw [← hke] at h3
          exact scal_eq hsc h3
        have hsame : (Instr.keyThatStays (((es'[i']?).map (·.key)).getD k') k').run P w = .ok k' w := by
          have : es'[i']? = some e' := by simpa using he1
          simp [Instr.keyThatStays, this, hkey, sameBits_scal hsc]
        have hnew : F2 (ER φ) (es.modify i' fun e => { e with key := k', val := x }) (es'.modify i' fun e => { e with key := k', val := x' }).toList := by
          rw [Array.toList_modify]
          exact h2.modify (f := fun e => { e with key := k', val := x }) (g := fun e => { e with key := k', val := x' }) (fun a b hab => ⟨hk, hx, hab.born⟩) i'
        obtain ⟨w', k1, k2, k3⟩ := hr.mapSet hlo (clock' := clock) hb hp hnew
        refine ⟨_, w', hg, k2, k3, ?_⟩
        simp [Instr.mapUpdate, run_und hu, run_getMap hO, hck, findKey_run hku g3, hsame, k1]
    · rename_i hf
      rw [snocK_eq, fnK_eq] at hg
      obtain ⟨hlo, hg⟩ := setBlock_good hfl hg
      obtain ⟨r', g3, g4⟩ := findAsking_sound hr hk es es'.toList 0 _ h2 hf
      cases r' with
      | some p => exact g4.elim
      | none =>
        have hnew : F2 (ER φ) (es ++ [{ key := k', val := x, born := clock }]) (es'.push { key := k', val := x', born := clock }).toList := by
          rw [Array.toList_push]
          exact h2.append (.cons ⟨hk, hx, rfl⟩ .nil)
        obtain ⟨w', k1, k2, k3⟩ := hr.mapSet hlo (clock' := clock + 1) hb hp hnew
        refine ⟨_, w', hg, k2, k3, ?_⟩
        simp [Instr.mapUpdate, run_und hu, run_getMap hO, hck, findKey_run hku g3, k1]
    · exact absurd hg hfl

end Go.Vai
