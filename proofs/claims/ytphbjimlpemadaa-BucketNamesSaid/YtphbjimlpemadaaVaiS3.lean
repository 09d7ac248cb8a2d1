/-
  PROVED HERE: a part of an interpreter for the model's code, and that it is sound.
  The interpreter is sound, part 3: equality, slices, look-ups, binary operations.
-/
import Derived.Test.YtphbjimlpemadaaVaiS2
set_option linter.unusedVariables false
set_option linter.unusedSimpArgs false
namespace Go.Vai
open Go
variable {β : Type} {fl : β} {good : β → Prop} {P : Program} {φ : Emb} {h : Heap} {w : World} {t : TypeId}

theorem bbeq (a b : ByteArray) : (a == b) = decide (a = b) := by
  rw [beq_toListBytes, ByteArray.toList_eq, ByteArray.toList_eq]
  rw [Bool.eq_iff_iff]
  simp
  constructor
  · intro e; cases a; cases b; simp at e; simp [e]
  · intro e; rw [e]

theorem HR.liveAt (hr : HR P φ h w) {b : Nat} {pl : Pl} (hb : liveC h b = true) (hp : φ b = some pl) :
    ∃ o C e, h.bl.get b = some o ∧ o.live ∧ w.heap[pl.B]? = some (.cells C e (0, 0)) := by
  unfold liveC at hb
  split at hb <;> try cases hb
  rename_i hb'
  have := hr.obj b _ pl hb' hp
  cases hO : w.heap[pl.B]? with
  | none => rw [hO] at this; exact this.elim
  | some O =>
    rw [hO] at this
    cases O <;> simp only [OR] at this <;> try exact this.elim
    obtain ⟨rfl, rfl, _⟩ := this
    exact ⟨_, _, _, hb', trivial, rfl⟩

theorem eqGo_sound (D : Nat) (rec : TypeId → Value → Value → Option Bool)
    (ih : ∀ (t : TypeId) (x y x' y' : Value) (r : Bool), rec t x y = some r → VR φ x x' → VR φ y y' → (Op.equalIn D t x' y').run P w = .ok r w) :
    ∀ (fs : List Field) (xs ys : List Value) (xs' ys' : Array Value) (r : Bool), eqGo P rec fs xs ys = some r → F2 (VR φ) xs xs'.toList → F2 (VR φ) ys ys'.toList →
      (Op.eqFields D xs' ys' fs).run P w = .ok r w := by
  intro fs
  induction fs with
  | nil => intro xs ys xs' ys' r he _ _; simp only [eqGo] at he; cases he; simp [Op.eqFields]
  | cons f fs ihf =>
    intro xs ys xs' ys' r he hx hy
    simp only [eqGo] at he
    split at he <;> try cases he
    rename_i hnm
    have hn : f.name ≠ "_" := by simpa using hnm
    have fin : ∀ (x y x' y' : Value), VR φ x x' → VR φ y y' → (part f.type xs' f.offset).run P w = .ok x' w → (part f.type ys' f.offset).run P w = .ok y' w →
        (match rec f.type x y with | some true => eqGo P rec fs xs ys | r => r) = some r → (Op.eqFields D xs' ys' (f :: fs)).run P w = .ok r w := by
      intro x y x' y' vx vy px py hm
      cases hr : rec f.type x y with
      | none => rw [hr] at hm; cases hm
      | some q =>
        have := ih f.type x y x' y' q hr vx vy
        rw [hr] at hm
        cases q
        · simp at hm; subst hm
          simp [Op.eqFields, hn, px, py, this]
        · simp [Op.eqFields, hn, px, py, this]
          exact ihf xs ys xs' ys' r hm hx hy
    split at he
    · rename_i hag hsz
      refine fin _ _ (.agg ⟨(xs'.toList.drop f.offset).take _⟩) (.agg ⟨(ys'.toList.drop f.offset).take _⟩) (VR.agg' ?_) (VR.agg' ?_) (part_sound hag hsz xs' f.offset) (part_sound hag hsz ys' f.offset) he
      · exact (hx.drop _).take _
      · exact (hy.drop _).take _
    · rename_i hag hsz
      split at he <;> try cases he
      rename_i x y ex ey
      obtain ⟨x', ex', vx⟩ := hx.get _ _ ex
      obtain ⟨y', ey', vy⟩ := hy.get _ _ ey
      refine fin x y x' y' vx vy ?_ ?_ he
      · have := part_sound (w := w) hag hsz xs' f.offset; rw [this]; simp only [ex']
      · have := part_sound (w := w) hag hsz ys' f.offset; rw [this]; simp only [ey']
    · cases he

set_option maxHeartbeats 4000000 in
theorem eqB_sound (hr : HR P φ h w) : ∀ (d D : Nat), d ≤ D → ∀ (t : TypeId) (x y x' y' : Value) (r : Bool), eqB P h d t x y = some r → VR φ x x' → VR φ y y' →
    (Op.equalIn D t x' y').run P w = .ok r w := by
  intro d
  induction d with
  | zero => intro D _ t x y x' y' r he; simp [eqB] at he
  | succ d ih =>
    intro D hD t x y x' y' r he vx vy
    obtain ⟨D, rfl⟩ : ∃ k, D = k + 1 := ⟨D - 1, by omega⟩
    simp only [eqB] at he
    split at he <;> try (cases he; done)
    · rename_i hu; cases vx; cases vy; rename_i a b
      cases a <;> cases b <;> simp at he <;> subst he <;> simp [Op.equalIn, run_und hu]
    · rename_i hu; cases vx; cases vy
      split at he <;> try (cases he; done)
      rename_i hk; rw [kindEq_eq] at hk; simp at hk; subst hk
      simp [ieqB_eq] at he; subst he
      simp [Op.equalIn, run_und hu]
      rfl
    · rename_i hu; cases vx; cases vy
      simp [bytesEqB_eq] at he; subst he
      simp [Op.equalIn, run_und hu, bbeq]
    · rename_i hu; cases vx; cases vy; simp at he; subst he; simp [Op.equalIn, run_und hu]
    · rename_i hu; cases vx; cases vy; simp at he; subst he; simp [Op.equalIn, run_und hu]
    · rename_i hu; cases vx; cases vy; simp at he; subst he; simp [Op.equalIn, run_und hu]
    · rename_i e b o b' o' hu
      split at he <;> try (cases he; done)
      rename_i s hs
      split at he <;> try (cases he; done)
      rename_i hl hl'
      cases vx with
      | ptr hp =>
        cases vy with
        | ptr hp' =>
          rename_i pl pl'
          obtain ⟨q, C, e1, g1, g2, g3⟩ := hr.liveAt hl hp
          obtain ⟨q', C', e2, g1', g2', g3'⟩ := hr.liveAt hl' hp'
          have hsz : (sizeOf e).run P w = .ok (s + 1) w := run_size hs
          split at he
          · rename_i hb; have hb := beq_t hb; subst hb
            rw [hp] at hp'; cases hp'
            simp at he; subst he
            simp [Op.equalIn, run_und hu, hsz, sameAddr]
            rw [Bool.eq_iff_iff]; simp
          · rename_i hb; have hb := beq_f hb
            simp at he; subst he
            have hne : pl.B ≠ pl'.B := fun e => hb (hr.inj _ _ _ _ _ _ g1 g1' g2 g2' hp hp' e)
            simp [Op.equalIn, run_und hu, hsz, run_sameAddr_ne g3 g3' hne]
    · rename_i hu; cases vx; cases vy; simp at he; subst he; simp [Op.equalIn, run_und hu]
    · rename_i hu; cases vx; cases vy; simp at he; subst he; simp [Op.equalIn, run_und hu]
    · rename_i hu; cases vx; cases vy; simp at he; subst he; simp [Op.equalIn, run_und hu]
    · rename_i fs xs ys hu
      split at he <;> try (cases he; done)
      rename_i hst
      cases vx with
      | agg _ xs' hx1 hx2 =>
        cases vy with
        | agg _ ys' hy1 hy2 =>
          have hf : P.fieldsOf t = fs := by simp [Program.fieldsOf, hu]
          rw [run_equalIn_struct w D t xs' ys' (by rw [hf]; exact hu) hst, hf]
          exact eqGo_sound D (eqB P h d) (fun t x y x' y' r he vx vy => ih D (by omega) t x y x' y' r he vx vy) _ _ _ xs' ys' r he (F2.of_get hx1 hx2) (F2.of_get hy1 hy2)
    · rename_i hu; cases vx; cases vy; simp at he; subst he; simp [Op.equalIn, run_und hu]
    · rename_i hu; cases vx <;> cases vy <;> simp at he <;> subst he <;> simp [Op.equalIn, run_und hu]
    · rename_i hu; cases vx <;> cases vy <;> simp at he <;> subst he <;> simp [Op.equalIn, run_und hu]
    · rename_i hu; cases vx; cases vy; simp at he; subst he; simp [Op.equalIn, run_und hu]
    · rename_i hu; cases vx; cases vy; simp at he; subst he; simp [Op.equalIn, run_und hu]
    · rename_i hu; cases vx; cases vy; simp at he; subst he; simp [Op.equalIn, run_und hu]
    · rename_i hu; cases vx; cases vy; simp at he; subst he; simp [Op.equalIn, run_und hu]
    · rename_i hu; cases vx <;> cases vy <;> simp at he <;> subst he <;> simp [Op.equalIn, run_und hu]
    · rename_i hu; cases vx <;> cases vy <;> simp at he <;> subst he <;> simp [Op.equalIn, run_und hu]

/-! ## parts, fields, indexes -/
theorem takeK_good (hfl : ¬ good fl) : ∀ (n : Nat) (l : List Value) (κ : List Value → β), good (takeK fl n l κ) → good (κ (l.take n)) := by
  intro n
  induction n with
  | zero => intro l κ hg; simpa [takeK] using hg
  | succ n ih =>
    intro l κ hg
    cases l with
    | nil => simp only [takeK] at hg; exact absurd hg hfl
    | cons v l => simp only [takeK] at hg; simpa using ih l _ hg

theorem partB_sound (hfl : ¬ good fl) {fty : TypeId} {b : Bool} (hb : aggT P fty = some b) {s : Nat} (hs : szOf P fty = some s) {cs cs' : Array Value} (hc : F2 (VR φ) cs.toList cs'.toList) (off : Nat)
    {κ : Value → β} (hg : good (partB fl b s cs.toList off κ)) : ∃ v v', good (κ v) ∧ VR φ v v' ∧ (part fty cs' off).run P w = .ok v' w := by
  have hp := part_sound (w := w) hb hs cs' off
  cases b
  · simp only [partB] at hg
    split at hg <;> try exact absurd hg hfl
    rename_i v hv
    obtain ⟨v', e, r⟩ := hc.get _ _ hv
    refine ⟨v, v', hg, r, ?_⟩
    rw [hp]; simp only [e]
  · simp only [partB] at hg
    have := takeK_good hfl _ _ _ hg
    exact ⟨_, _, this, VR.agg' ((hc.drop off).take s), hp⟩

theorem fieldB_sound (hfl : ¬ good fl) {fs : Array Field} {fld : Field} {f s : Nat} {b : Bool} (hu : P.underlying t = some (.struct fs)) (hf : fs[f]? = some fld) (hb : aggT P fld.type = some b) (hs : szOf P fld.type = some s)
    {a a' : Value} {κ : Value → Heap → β} (hg : good (fieldB fl b s fld.offset a h κ)) (ha : VR φ a a') :
    ∃ v v', good (κ v h) ∧ VR φ v v' ∧ (Instr.field t a' f).run P w = .ok v' w := by
  unfold fieldB at hg
  split at hg <;> try exact absurd hg hfl
  cases ha with
  | agg _ cs' h1 h2 =>
    obtain ⟨v, v', g1, g2, g3⟩ := partB_sound (w := w) hfl hb hs (F2.of_get h1 h2) _ hg
    exact ⟨v, v', g1, g2, by simp [Instr.field, run_und hu, hf, asAgg, g3]⟩

theorem indexB_sound (hfl : ¬ good fl) {e s len : Nat} {b : Bool} (hu : P.underlying t = some (.array len e)) (hb : aggT P e = some b) (hs : szOf P e = some s)
    {a a' i i' : Value} {κ : Value → Heap → β} (hg : good (indexB fl b len s a i h κ)) (ha : VR φ a a') (hi : VR φ i i') :
    ∃ v v', good (κ v h) ∧ VR φ v v' ∧ (Instr.index t a' i').run P w = .ok v' w := by
  unfold indexB at hg
  split at hg <;> try exact absurd hg hfl
  split at hg <;> try exact absurd hg hfl
  rename_i cs k j _ hle
  have hle : j < len := ble_t hle
  cases hi
  cases ha with
  | agg _ cs' h1 h2 =>
    obtain ⟨v, v', g1, g2, g3⟩ := partB_sound (w := w) hfl hb hs (F2.of_get h1 h2) _ hg
    refine ⟨v, v', g1, g2, ?_⟩
    have g3' : (part e cs' (j * s)).run P w = .ok v' w := g3
    simp [Instr.index, asIntOf, run_und hu, run_size hs, hle, g3']

theorem indexS_sound (hfl : ¬ good fl) (hu : P.underlying t = some .string)
    {a a' i i' : Value} {κ : Value → Heap → β} (hg : good (indexS fl a i h κ)) (ha : VR φ a a') (hi : VR φ i i') :
    ∃ v v', good (κ v h) ∧ VR φ v v' ∧ (Instr.index t a' i').run P w = .ok v' w := by
  unfold indexS at hg
  split at hg <;> try exact absurd hg hfl
  rename_i s k j
  split at hg <;> try exact absurd hg hfl
  rename_i b hb
  simp only [fnK_eq] at hg
  cases hi
  cases ha
  refine ⟨_, .int .u8 b.toNat, hg, .int _ _, ?_⟩
  have : s[j]? = some b := by
    have hj := (List.getElem?_eq_some_iff.1 hb).1
    have hb' := (List.getElem?_eq_some_iff.1 hb).2
    have hj' : j < s.size := by simpa using hj
    rw [getElem?_pos s j hj']
    congr 1
  simp [Instr.index, asIntOf, run_und hu, this]

/-! ## slices -/
abbrev OVR (φ : Emb) (v v' : Option Value) : Prop := match v, v' with | none, none => True | some x, some x' => VR φ x x' | _, _ => False

theorem numK_good (hfl : ¬ good fl) {v v' : Option Value} {d : Nat} {κ : Nat → β} (hg : good (numK fl v d κ)) (hv : OVR φ v v') :
    ∃ n, good (κ n) ∧ (v = none → n = d) ∧ ∀ x', v' = some x' → ∃ k, x' = .int k (n : Int) := by
  unfold numK at hg
  split at hg
  · exact ⟨d, hg, fun _ => rfl, fun x' e => by subst e; exact hv.elim⟩
  · rename_i k n
    refine ⟨n, hg, fun e => (by cases e), fun x' e => ?_⟩
    subst e
    cases hv
    exact ⟨k, rfl⟩
  · exact absurd hg hfl

theorem run_sliceBound {k : IntKind} {n y : Nat} {code : BoundsCode} (h : n ≤ y) : (Instr.sliceBound (.int k (n : Int)) y code).run P w = .ok n w := by
  have : (n : Int) ≤ (y : Int) := by omega
  simp [Instr.sliceBound, asIntOf, this]

/-- the bounds are told alike: 'cap'' is the true capacity -/
theorem boundsB_sound (hfl : ¬ good fl) {len lim cap cap' : Nat} {lo hi mx lo' hi' mx' : Option Value} {κ : Nat → Nat → Nat → β} (hg : good (boundsB fl len lim cap lo hi mx κ))
    (h1 : OVR φ lo lo') (h2 : OVR φ hi hi') (h3 : OVR φ mx mx') (hlim : lim ≤ cap') (b : Bool) :
    ∃ l hh m, l ≤ hh ∧ hh ≤ lim ∧ ((mx = none ∧ m = cap ∧ good (κ l hh cap) ∧ (Instr.sliceBounds b len cap' lo' hi' mx').run P w = .ok (l, hh, cap') w) ∨
      (mx ≠ none ∧ hh ≤ m ∧ m ≤ lim ∧ good (κ l hh m) ∧ (Instr.sliceBounds b len cap' lo' hi' mx').run P w = .ok (l, hh, m) w)) := by
  unfold boundsB at hg
  cases mx with
  | none =>
    cases mx' with
    | some _ => exact h3.elim
    | none =>
      obtain ⟨hh, g1, e1, e2⟩ := numK_good hfl hg h2
      obtain ⟨l, g2, e3, e4⟩ := numK_good hfl g1 h1
      split at g2 <;> try exact absurd g2 hfl
      rename_i hle1 hle2
      have hle1 := ble_t hle1; have hle2 := ble_t hle2
      refine ⟨l, hh, cap, hle1, hle2, .inl ⟨rfl, rfl, g2, ?_⟩⟩
      cases lo <;> cases lo' <;> (try exact h1.elim) <;> cases hi <;> cases hi' <;> (try exact h2.elim) <;> simp at e1 e2 e3 e4
      · subst e1; subst e3; simp [Instr.sliceBounds]
      · obtain ⟨k, rfl⟩ := e2; subst e3
        simp [Instr.sliceBounds, run_sliceBound (P := P) (w := w) (k := k) (show hh ≤ cap' by omega)]
      · obtain ⟨k, rfl⟩ := e4; subst e1
        simp [Instr.sliceBounds, run_sliceBound (P := P) (w := w) (k := k) hle1]
      · obtain ⟨k, rfl⟩ := e2; obtain ⟨k', rfl⟩ := e4
        simp [Instr.sliceBounds, run_sliceBound (P := P) (w := w) (k := k) (show hh ≤ cap' by omega), run_sliceBound (P := P) (w := w) (k := k') hle1]
  | some x =>
    cases mx' with
    | none => exact h3.elim
    | some x' =>
      obtain ⟨m, g0, _, e0⟩ := numK_good hfl hg h3
      obtain ⟨hh, g1, e1, e2⟩ := numK_good hfl g0 h2
      obtain ⟨l, g2, e3, e4⟩ := numK_good hfl g1 h1
      split at g2 <;> try exact absurd g2 hfl
      rename_i hs hle1 hle2 hle3
      have hle1 := ble_t hle1; have hle2 := ble_t hle2; have hle3 := ble_t hle3
      obtain ⟨k0, rfl⟩ := e0 x' rfl
      refine ⟨l, hh, m, hle1, by omega, .inr ⟨by simp, hle2, hle3, g2, ?_⟩⟩
      cases hi with
      | none => simp at hs
      | some y =>
        cases hi' with
        | none => exact h2.elim
        | some y' =>
          obtain ⟨k, rfl⟩ := e2 y' rfl
          have r0 : ∀ c, (Instr.sliceBound (.int k0 (m : Int)) cap' c).run P w = .ok m w := fun c => run_sliceBound (by omega)
          have r1 : ∀ c, (Instr.sliceBound (.int k (hh : Int)) m c).run P w = .ok hh w := fun c => run_sliceBound hle2
          cases lo <;> cases lo' <;> (try exact h1.elim) <;> simp at e3 e4
          · subst e3; simp [Instr.sliceBounds, r0, r1]
          · obtain ⟨k', rfl⟩ := e4
            simp [Instr.sliceBounds, r0, r1, run_sliceBound (P := P) (w := w) (k := k') hle1]

end Go.Vai
