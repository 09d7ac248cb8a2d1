/-
  PROVED HERE: a part of an interpreter for the model's code, and that it is sound.
  The interpreter is sound, part 4: slices, look-ups, type assertions, binary operations.
-/
import Derived.Test.YtphbjimlpemadaaVaiS3
set_option linter.unusedVariables false
set_option linter.unusedSimpArgs false
namespace Go.Vai
open Go
variable {β : Type} {fl : β} {good : β → Prop} {P : Program} {φ : Emb} {h : Heap} {w : World} {t : TypeId}

theorem openCap_val : openCap = 1267650600228229401496703205376 := rfl
theorem anyCap_val : anyCap = 1267650600228229401496703205377 := rfl

theorem basicOk_VR {v : Value} (hv : basicOk v = true) : VR φ v v := by
  cases v <;> simp only [basicOk] at hv <;> try (cases hv; done)
  · exact .bool _
  · exact .int _ _
  · exact .string _
  · rename_i a; cases a
    · exact .ptrNil
    · simp at hv
  · rename_i a n c; cases a
    · exact .sliceNil (ble_t hv)
    · simp at hv
  · rename_i r; cases r
    · exact .mapNil
    · simp at hv
  · exact .nilFunc
  · exact .nilIface
theorem basicL_VR {l : List Value} (h : l.all basicOk = true) : F2 (VR φ) l l := by
  induction l with
  | nil => exact .nil
  | cons v l ih => simp at h; exact .cons (basicOk_VR h.1) (ih (by simpa using h.2))
theorem selfOk_VR {v : Value} (hv : selfOk v = true) : VR φ v v := by
  cases v
  case agg cs => exact VR.agg' (basicL_VR hv)
  case tuple cs => exact VR.tuple' (basicL_VR hv)
  case iface t v => exact .iface t (basicOk_VR hv)
  all_goals exact basicOk_VR hv
theorem scal1_eq {v v' : Value} (hs : scal1 v = true) (hv : VR φ v v') : v' = v := by
  cases v <;> simp [scal1] at hs <;> cases hv <;> rfl
theorem scalL_eq {l l' : List Value} (hs : l.all scal1 = true) (hv : F2 (VR φ) l l') : l' = l := by
  induction hv with
  | nil => rfl
  | cons hr _ ih => simp at hs; rw [scal1_eq hs.1 hr, ih (by simpa using hs.2)]
theorem scal_eq {v v' : Value} (hs : scal v = true) (hv : VR φ v v') : v' = v := by
  cases v
  case agg cs =>
    cases hv with
    | agg _ a' h1 h2 =>
      have := scalL_eq (φ := φ) hs (F2.of_get h1 h2)
      congr 1
      exact Array.ext' this
  all_goals exact scal1_eq hs hv

/-! ## slices -/
theorem sliceOut_sound {b o s l hh m : Nat} {pl : Pl} (hp : φ b = some pl) (h1 : l ≤ hh) (h2 : hh ≤ m) (h3 : m < openCap) {κ : Value → β} (hg : good (sliceOut b o s l hh m κ)) :
    ∃ v, good (κ v) ∧ VR φ v (.slice (some (if m = l then ⟨pl.B, o, none⟩ else (⟨pl.B, o, none⟩ : Addr).add (l * s))) (hh - l) (m - l)) := by
  unfold sliceOut at hg
  split at hg
  · rename_i he; have he := beq_t he; subst he
    simp only [fnK_eq] at hg
    refine ⟨_, hg, ?_⟩
    rw [if_pos rfl]
    have e1 : hh - m = 0 := by omega
    have e2 : m - m = 0 := by omega
    rw [show Nat.sub hh m = 0 from e1, e1, e2]
    exact .slice hp (Nat.le_refl _) (by rw [openCap_val]; omega)
  · rename_i he; have he := beq_f he
    simp only [fnK_eq] at hg
    refine ⟨_, hg, ?_⟩
    rw [if_neg he, addr_add]
    exact .slice hp (show hh - l ≤ m - l by omega) (show m - l < openCap by omega)

theorem run_sliceAt {e s : Nat} {a : Option Addr} {len cap l hh m : Nat} {lo hi mx : Option Value} (hu : P.underlying t = some (.slice e)) (hs : szOf P e = some s)
    (hb : (Instr.sliceBounds true len cap lo hi mx).run P w = .ok (l, hh, m) w) :
    (Instr.sliceAt t (.slice a len cap) lo hi mx).run P w = .ok (.slice (if m = l then a else a.map (·.add (l * s))) (hh - l) (m - l)) w := by
  simp [Instr.sliceAt, Instr.slice, run_und hu, hb, run_size hs]

theorem HR.known (hr : HR P φ h w) {e b n : Nat} {pl : Pl} (hk : knownOf h e b = some n) (hp : φ b = some pl) : n ≤ pl.sz ∧ n ≤ 4611686018427387904 ∧ szOf P e = some pl.e ∧ 0 < pl.e := by
  unfold knownOf at hk
  split at hk
  · rename_i hb
    split at hk <;> try (cases hk; done)
    rename_i he; have he := beq_t he; subst he
    cases hk
    have := hr.obj b _ pl hb hp
    cases hO : w.heap[pl.B]? with
    | none => rw [hO] at this; exact this.elim
    | some O =>
      rw [hO] at this
      cases O <;> simp only [OR] at this <;> try exact this.elim
      obtain ⟨_, _, h3, h4, h5, _⟩ := this
      obtain ⟨g1, g2, g3⟩ := h5 trivial
      exact ⟨by omega, h4, g2, g3⟩
  · rename_i hb
    split at hk <;> try (cases hk; done)
    rename_i he; have he := beq_t he; subst he
    cases hk
    have := hr.obj b _ pl hb hp
    cases hO : w.heap[pl.B]? with
    | none => rw [hO] at this; exact this
    | some O => rw [hO] at this; cases O <;> exact this
  · cases hk

theorem sliceB_sound (hfl : ¬ good fl) {e s : Nat} (hu : P.underlying t = some (.slice e)) (hs : szOf P e = some s) (hr : HR P φ h w)
    {x x' : Value} {lo hi mx lo' hi' mx' : Option Value} {κ : Value → Heap → β} (hg : good (sliceB fl e s x lo hi mx h κ)) (hx : VR φ x x') (h1 : OVR φ lo lo') (h2 : OVR φ hi hi') (h3 : OVR φ mx mx') :
    ∃ v v', good (κ v h) ∧ VR φ v v' ∧ (Instr.sliceAt t x' lo' hi' mx').run P w = .ok v' w := by
  unfold sliceB at hg
  split at hg <;> try exact absurd hg hfl
  · -- nil
    rename_i len cap
    cases hx with
    | sliceNil hle =>
      obtain ⟨l, hh, m, g1, g2, g3⟩ := boundsB_sound (w := w) hfl hg h1 h2 h3 (Nat.le_refl cap) true
      rcases g3 with ⟨_, rfl, g4, g5⟩ | ⟨_, g6, g7, g4, g5⟩
      · simp only [fnK_eq] at g4
        refine ⟨_, _, g4, ?_, run_sliceAt hu hs g5⟩
        have : (if m = l then (none : Option Addr) else Option.map (fun a : Addr => a.add (l * s)) none) = none := by split <;> rfl
        rw [this]
        exact .sliceNil (show hh - l ≤ m - l by omega)
      · simp only [fnK_eq] at g4
        refine ⟨_, _, g4, ?_, run_sliceAt hu hs g5⟩
        have : (if m = l then (none : Option Addr) else Option.map (fun a : Addr => a.add (l * s)) none) = none := by split <;> rfl
        rw [this]
        exact .sliceNil (show hh - l ≤ m - l by omega)
  · rename_i b o len cap
    split at hg
    · -- any
      rename_i hc; have hc := beq_t hc; subst hc
      split at hg <;> try exact absurd hg hfl
      rename_i hl; have hl := beq_t hl; subst hl
      have : ∃ a' c, x' = .slice (some a') 0 c := by
        cases hx with
        | slice hp hn hc => exact ⟨_, _, rfl⟩
        | sliceAny a a' c => exact ⟨a', c, rfl⟩
      obtain ⟨a', c, rfl⟩ := this
      obtain ⟨l, hh, m, g1, g2, g3⟩ := boundsB_sound (w := w) hfl hg h1 h2 h3 (Nat.zero_le c) true
      have hh0 : hh = 0 := by omega
      have hl0 : l = 0 := by omega
      subst hh0; subst hl0
      have fin : ∀ m', VR φ (.slice (some ⟨b, o, none⟩) 0 anyCap) (.slice (if m' = 0 then some a' else Option.map (fun a : Addr => a.add (0 * s)) (some a')) (0 - 0) (m' - 0)) := by
        intro m'
        have : (if m' = 0 then some a' else Option.map (fun a : Addr => a.add (0 * s)) (some a')) = some a' := by split <;> simp [Addr.add]
        rw [this]
        exact .sliceAny _ _ _
      rcases g3 with ⟨_, rfl, g4, g5⟩ | ⟨_, g6, g7, g4, g5⟩
      · exact ⟨_, _, g4, fin _, run_sliceAt hu hs g5⟩
      · exact ⟨_, _, g4, fin _, run_sliceAt hu hs g5⟩
    · rename_i hna; have hna := beq_f hna
      split at hg
      · -- exact
        rename_i hno; have hno := beq_f hno
        split at hg <;> try exact absurd hg hfl
        rename_i hcl; have hcl := ble_t hcl
        cases hx with
        | sliceOpen hp hn hc => exact absurd rfl hno
        | sliceAny a a' c => exact absurd rfl hna
        | slice hp hn hc =>
          rename_i pl
          obtain ⟨l, hh, m, g1, g2, g3⟩ := boundsB_sound (w := w) hfl hg h1 h2 h3 (Nat.le_refl cap) true
          rcases g3 with ⟨_, rfl, g4, g5⟩ | ⟨_, g6, g7, g4, g5⟩
          · obtain ⟨v, k1, k2⟩ := sliceOut_sound hp g1 (by omega) hc g4
            refine ⟨v, _, k1, ?_, run_sliceAt hu hs g5⟩
            by_cases hm : m = l
            · simpa [hm] using k2
            · simpa [hm] using k2
          · obtain ⟨v, k1, k2⟩ := sliceOut_sound hp g1 (by omega) (by omega) g4
            refine ⟨v, _, k1, ?_, run_sliceAt hu hs g5⟩
            by_cases hm : m = l
            · simpa [hm] using k2
            · simpa [hm] using k2
      · -- open
        rename_i hno; have hno := beq_t hno; subst hno
        split at hg <;> try exact absurd hg hfl
        rename_i n s0 hk
        split at hg <;> try exact absurd hg hfl
        rename_i hon; have hon := ble_t hon
        have hx' : ∃ pl c, φ b = some pl ∧ len ≤ c ∧ c * pl.e + o = pl.sz ∧ x' = .slice (some ⟨pl.B, o, none⟩) len c := by
          cases hx with
          | slice hp hn hc => exact absurd hc (Nat.lt_irrefl _)
          | sliceOpen hp hn hc => exact ⟨_, _, hp, hn, hc, rfl⟩
        obtain ⟨pl, c, hp, hn, hc, rfl⟩ := hx'
        obtain ⟨k1, k2, k3, k4⟩ := hr.known hk hp
        have e2 : pl.e = s0 + 1 := by rw [hs] at k3; exact (Option.some.inj k3).symm
        have hlim : Nat.div (Nat.sub n o) (s0 + 1) ≤ c := by
          show (n - o) / (s0 + 1) ≤ c
          have hc2 := hc
          rw [e2] at hc2
          apply Nat.div_le_of_le_mul
          rw [Nat.mul_comm]
          omega
        obtain ⟨l, hh, m, g1, g2, g3⟩ := boundsB_sound (w := w) hfl hg h1 h2 h3 hlim true
        have hlb : Nat.div (Nat.sub n o) (s0 + 1) ≤ 4611686018427387904 := Nat.le_trans (Nat.div_le_self _ _) (by show n - o ≤ _; omega)
        rcases g3 with ⟨_, rfl, g4, g5⟩ | ⟨_, g6, g7, g4, g5⟩
        · split at g4
          · split at g4
            · rename_i hl; have hl := beq_t hl
              refine ⟨_, _, g4, ?_, run_sliceAt hu hs g5⟩
              have e1 : hh - l = 0 := by omega
              rw [e1]
              by_cases hm : c = l
              · rw [if_pos hm]; exact .sliceAny _ _ _
              · rw [if_neg hm]; exact .sliceAny _ _ _
            · rename_i hl; have hl := beq_f hl
              simp only [fnK_eq] at g4
              refine ⟨_, _, g4, ?_, run_sliceAt hu hs g5⟩
              have hm : ¬ c = l := by omega
              rw [if_neg hm]
              simp only [Option.map_some, addr_add]
              refine .sliceOpen hp (show hh - l ≤ c - l by omega) ?_
              show (c - l) * pl.e + (o + l * (s0 + 1)) = pl.sz
              have hcl : l ≤ c := by omega
              rw [← hc, Nat.sub_mul]
              have : l * pl.e ≤ c * pl.e := Nat.mul_le_mul_right _ hcl
              rw [← e2]
              omega
          · rename_i hf; exact absurd rfl (beq_f hf)
        · split at g4
          · rename_i hf; have hf := beq_t hf; rw [openCap_val] at hf; omega
          · obtain ⟨v, j1, j2⟩ := sliceOut_sound hp g1 g6 (by rw [openCap_val]; omega) g4
            refine ⟨v, _, j1, ?_, run_sliceAt hu hs g5⟩
            by_cases hm : m = l
            · simpa [hm] using j2
            · simpa [hm] using j2

theorem sliceS_sound (hfl : ¬ good fl) (hu : P.underlying t = some .string)
    {x x' : Value} {lo hi mx lo' hi' mx' : Option Value} {κ : Value → Heap → β} (hg : good (sliceS fl x lo hi mx h κ)) (hx : VR φ x x') (h1 : OVR φ lo lo') (h2 : OVR φ hi hi') (h3 : OVR φ mx mx') :
    ∃ v v', good (κ v h) ∧ VR φ v v' ∧ (Instr.sliceAt t x' lo' hi' mx').run P w = .ok v' w := by
  unfold sliceS at hg
  split at hg <;> try exact absurd hg hfl
  rename_i s
  cases hx
  cases mx' with
  | some _ => exact h3.elim
  | none =>
    obtain ⟨l, hh, m, g1, g2, g3⟩ := boundsB_sound (P := P) (w := w) hfl hg h1 h2 (mx := none) (mx' := none) trivial (Nat.le_refl s.size) false
    rcases g3 with ⟨_, rfl, g4, g5⟩ | ⟨g6, _⟩
    · refine ⟨_, .string (s.extract l hh), g4, .string _, ?_⟩
      simp [Instr.sliceAt, Instr.slice, run_und hu, g5]
    · exact absurd rfl g6

/-! ## look-ups -/
theorem checkKey_sound : ∀ (d : Nat) (D : Nat), d ≤ D → ∀ (t : TypeId) (v : Value) (em : Bool), keyOk P d t v = true → (Instr.checkKey em D t v).run P w = .ok () w := by
  intro d
  induction d with
  | zero => intro D _ t v em hk; simp [keyOk] at hk
  | succ d ih =>
    intro D hD t v em hk
    obtain ⟨D, rfl⟩ : ∃ k, D = k + 1 := ⟨D - 1, by omega⟩
    simp only [keyOk] at hk
    split at hk <;> try (cases hk; done)
    · rename_i hu; simp [Instr.checkKey, run_und hu]
    · rename_i hu; simp [Instr.checkKey, run_und hu]
    · rename_i hu; simp [Instr.checkKey, run_und hu]
    · rename_i fs cs hu
      simp only [Bool.and_eq_true] at hk
      obtain ⟨_, hk⟩ := hk
      simp only [Instr.checkKey, Sem.run_bind, run_und hu, Result.andThen_ok]
      rw [← Array.forIn_toList]
      generalize fs.toList = l at hk
      clear hu
      induction l with
      | nil => simp
      | cons f l ihl =>
        simp only [List.all_cons, Bool.and_eq_true] at hk
        obtain ⟨hf, hk⟩ := hk
        have hrest := ihl hk
        have hone : ∃ x, (part f.type cs f.offset).run P w = .ok x w ∧ (Instr.checkKey em D f.type x).run P w = .ok () w := by
          split at hf <;> try (cases hf; done)
          · rename_i hag hsz
            exact ⟨_, part_sound hag hsz cs f.offset, ih D (by omega) _ _ em hf⟩
          · rename_i hag hsz
            split at hf <;> try (cases hf; done)
            rename_i v hv
            refine ⟨v, ?_, ih D (by omega) _ _ em hf⟩
            have := part_sound (w := w) hag hsz cs f.offset
            rw [this]; simp only [hv]
        obtain ⟨x, hx1, hx2⟩ := hone
        simp only [List.forIn_cons, Sem.run_bind, Sem.run_ite]
        split
        · simp only [hx1, hx2, Result.andThen_ok, Sem.run_pure]
          exact hrest
        · simp only [Sem.run_pure, Result.andThen_ok]
          exact hrest

theorem keyOk_scal {d : Nat} {v : Value} (hk : keyOk P d t v = true) : scal v = true := by
  cases d with
  | zero => simp [keyOk] at hk
  | succ d =>
    simp only [keyOk] at hk
    split at hk <;> try (cases hk; done)
    · rfl
    · rfl
    · rfl
    · simp only [Bool.and_eq_true] at hk; exact hk.1

theorem findAsking_sound (hr : HR P φ h w) {kt : TypeId} {k k' : Value} (hk : VR φ k k') : ∀ (es es' : List MapEntry) (i : Nat) (r : Option (Nat × MapEntry)), F2 (ER φ) es es' → findB P h kt k es i = some r →
    ∃ r' : Option (Nat × Value), (Instr.findAsking kt k' es' i).run P w = .ok r' w ∧
      match r, r' with
      | none, none => True
      | some (j, e), some (j', v') => j' = j ∧ i ≤ j ∧ es[j - i]? = some e ∧ VR φ e.val v' ∧ eqB P h 100 kt k e.key = some true
      | _, _ => False := by
  intro es
  induction es with
  | nil => intro es' i r h2 hf; cases h2; simp only [findB] at hf; cases hf; exact ⟨none, by simp [Instr.findAsking], trivial⟩
  | cons e es ih =>
    intro es' i r h2 hf
    cases h2 with
    | cons he h2 =>
      rename_i e' es'
      simp only [findB] at hf
      have key : ∀ q, eqB P h 100 kt k e.key = some q → (Op.equal kt k' e'.key).run P w = .ok q w := fun q hq => eqB_sound hr 100 10000 (by omega) kt _ _ _ _ q hq hk he.key
      split at hf
      · rename_i hq
        cases hf
        exact ⟨some (i, e'.val), by simp [Instr.findAsking, key _ hq], rfl, Nat.le_refl _, by simp, he.val, hq⟩
      · rename_i hq
        obtain ⟨r', h3, h4⟩ := ih es' (i + 1) r h2 hf
        refine ⟨r', by simp [Instr.findAsking, key _ hq, h3], ?_⟩
        cases r with
        | none => cases r' with
          | none => trivial
          | some _ => exact h4.elim
        | some p =>
          cases r' with
          | none => exact h4
          | some p' =>
            obtain ⟨g1, g2, g3, g4, g5⟩ := h4
            refine ⟨g1, by omega, ?_, g4, g5⟩
            rw [show p.1 - i = (p.1 - (i + 1)) + 1 by omega]; simpa using g3
      · cases hf

theorem sameNow_sound {D : Nat} {d : TypeDesc} {kt : TypeId} (hu : P.underlying kt = some d) {a b : Value} {q : Bool} (hs : Instr.sameNow d a b = some q) : (Op.equalIn (D + 1) kt a b).run P w = .ok q w := by
  unfold Instr.sameNow at hs
  split at hs <;> try (cases hs; done)
  · split at hs <;> try (cases hs; done)
    rename_i hk; subst hk; cases hs
    simp [Op.equalIn, run_und hu]
  · cases hs; simp [Op.equalIn, run_und hu]
  · cases hs; simp [Op.equalIn, run_und hu]

theorem findNow_sound {d : TypeDesc} {kt : TypeId} (hu : P.underlying kt = some d) {k : Value} : ∀ (es : List MapEntry) (i : Nat) (r : Option (Nat × Value)), Instr.findNow d k es i = some r → (Instr.findAsking kt k es i).run P w = .ok r w := by
  intro es
  induction es with
  | nil => intro i r hf; simp only [Instr.findNow] at hf; cases hf; simp [Instr.findAsking]
  | cons e es ih =>
    intro i r hf
    simp only [Instr.findNow] at hf
    split at hf
    · rename_i hq; cases hf
      simp [Instr.findAsking, Op.equal, sameNow_sound (D := 9999) (w := w) hu hq, Op.maxDepth]
    · rename_i hq
      simp [Instr.findAsking, Op.equal, sameNow_sound (D := 9999) (w := w) hu hq, Op.maxDepth, ih _ _ hf]
    · cases hf

theorem findKey_run {kt : TypeId} {d : TypeDesc} (hu : P.underlying kt = some d) {k : Value} {es : List MapEntry} {r : Option (Nat × Value)} (ha : (Instr.findAsking kt k es 0).run P w = .ok r w) :
    (Instr.findKey kt k es).run P w = .ok r w := by
  simp only [Instr.findKey, Sem.run_bind, run_und hu, Result.andThen_ok]
  cases hn : Instr.findNow d k es 0 with
  | none => simpa using ha
  | some r' =>
    have := findNow_sound (w := w) hu es 0 r' hn
    rw [ha] at this
    injection this with e1 e2
    subst e1
    simp

theorem keyOk_und {d : Nat} {v : Value} (hk : keyOk P d t v = true) : ∃ u, P.underlying t = some u := by
  cases d with
  | zero => simp [keyOk] at hk
  | succ d =>
    simp only [keyOk] at hk
    cases hu : P.underlying t with
    | none => rw [hu] at hk; simp at hk
    | some u => exact ⟨u, rfl⟩

theorem lookupE_sound (hfl : ¬ good fl) {kt et : TypeId} (hu : P.underlying t = some (.map kt et)) (ok : Bool)
    (hr : HR P φ h w) {m m' k k' : Value} {κ : Option Value → β} (hg : good (lookupE fl P kt m k h κ)) (hm : VR φ m m') (hk : VR φ k k') :
    ∃ r r' : Option Value, good (κ r) ∧ OVR φ r r' ∧ (Instr.lookup t m' k' ok).run P w = (match r' with
      | some v => .ok (if ok then .tuple #[v, .bool true] else v) w
      | none => ((zeroValue et).run P w).andThen fun z w => .ok (if ok then .tuple #[z, .bool false] else z) w) := by
  unfold lookupE at hg
  split at hg <;> try exact absurd hg hfl
  rename_i hko
  have hsc := keyOk_scal hko
  have hkk := scal_eq hsc hk
  subst hkk
  have hck : ∀ em, (Instr.checkKey em 10000 kt k').run P w = .ok () w := fun em => checkKey_sound 20 10000 (by omega) kt k' em hko
  obtain ⟨u, hku⟩ := keyOk_und hko
  cases hm <;> try exact absurd hg hfl
  · refine ⟨none, none, hg, trivial, ?_⟩
    have hfk : (Instr.findKey kt k' []).run P w = .ok none w := findKey_run hku (by simp [Instr.findAsking])
    simp only [Instr.lookup, Sem.run_bind, run_und hu, Result.andThen_ok, Sem.run_pure, hck, hfk]
    (try cases (zeroValue et).run P w <;> simp [Result.andThen])
  · rename_i r pl hp
    simp only at hg
    split at hg <;> try exact absurd hg hfl
    rename_i es clock hb
    obtain ⟨es', hO, h2⟩ := hr.mapAt hb hp
    split at hg
    · rename_i j e hf
      obtain ⟨r', g3, g4⟩ := findAsking_sound hr hk es es'.toList 0 _ h2 hf
      cases r' with
      | none => exact g4.elim
      | some p =>
        obtain ⟨j', v'⟩ := p
        obtain ⟨rfl, _, _, g5, _⟩ := g4
        refine ⟨some e.val, some v', hg, g5, ?_⟩
        simp [Instr.lookup, run_und hu, run_getMap hO, hck, findKey_run hku g3]
    · rename_i hf
      obtain ⟨r', g3, g4⟩ := findAsking_sound hr hk es es'.toList 0 _ h2 hf
      cases r' with
      | some p => exact g4.elim
      | none =>
        refine ⟨none, none, hg, trivial, ?_⟩
        simp only [Instr.lookup, Sem.run_bind, run_und hu, Result.andThen_ok, Sem.run_pure, run_getMap hO, hck, findKey_run hku g3]
        (try cases (zeroValue et).run P w <;> simp [Result.andThen])
    · exact absurd hg hfl

theorem lookupB_sound (hfl : ¬ good fl) {kt et : TypeId} {zero : Value} {inf : TypeInfo} (hu : P.underlying t = some (.map kt et)) (hi : P.info? et = some inf) (hz : inf.zero = some zero) (hzs : selfOk zero = true) (ok : Bool)
    (hr : HR P φ h w) {m m' k k' : Value} {κ : Value → Heap → β} (hg : good (lookupB fl P kt zero ok m k h κ)) (hm : VR φ m m') (hk : VR φ k k') :
    ∃ v v', good (κ v h) ∧ VR φ v v' ∧ (Instr.lookup t m' k' ok).run P w = .ok v' w := by
  obtain ⟨r, r', g1, g2, g3⟩ := lookupE_sound hfl hu ok hr hg hm hk
  cases r <;> cases r' <;> (try exact g2.elim) <;> cases ok <;> simp only at g1
  · exact ⟨_, zero, g1, selfOk_VR hzs, by rw [g3]; simp [run_zero hi hz]⟩
  · exact ⟨_, .tuple #[zero, .bool false], g1, VR.tuple' (.cons (selfOk_VR hzs) (.cons (.bool false) .nil)), by rw [g3]; simp [run_zero hi hz]⟩
  · exact ⟨_, _, g1, g2, by rw [g3]; simp⟩
  · exact ⟨_, .tuple #[_, .bool true], g1, VR.tuple' (.cons g2 (.cons (.bool true) .nil)), by rw [g3]; simp⟩

theorem typeAssertB_sound (hfl : ¬ good fl) {xt asserted : TypeId} {zero : Value} {inf : TypeInfo} {d : TypeDesc} (hu : P.underlying asserted = some d) (hd : ∀ ms, d ≠ .interface ms) (hi : P.info? asserted = some inf) (hz : inf.zero = some zero) (hzs : selfOk zero = true) (ok : Bool)
    {x x' : Value} {κ : Value → Heap → β} (hg : good (typeAssertB fl asserted zero ok x h κ)) (hx : VR φ x x') :
    ∃ v v', good (κ v h) ∧ VR φ v v' ∧ (Instr.typeAssert x' xt asserted ok).run P w = .ok v' w := by
  unfold typeAssertB at hg
  split at hg <;> try exact absurd hg hfl
  · rename_i t v
    cases hx with
    | iface _ hv =>
      rename_i v'
      split at hg <;> try exact absurd hg hfl
      · rename_i he; have he := beq_t he; subst he
        refine ⟨_, .tuple #[v', .bool true], hg, VR.tuple' (.cons hv (.cons (.bool true) .nil)), ?_⟩
        simp only [Instr.typeAssert, Sem.run_bind, run_und hu, Result.andThen_ok]
        cases d <;> first | exact absurd rfl (hd _) | simp
      · rename_i he; have he := beq_t he; subst he
        refine ⟨_, v', hg, hv, ?_⟩
        simp only [Instr.typeAssert, Sem.run_bind, run_und hu, Result.andThen_ok]
        cases d <;> first | exact absurd rfl (hd _) | simp
      · rename_i he; have he := beq_f he
        refine ⟨_, .tuple #[zero, .bool false], hg, VR.tuple' (.cons (selfOk_VR hzs) (.cons (.bool false) .nil)), ?_⟩
        simp only [Instr.typeAssert, Sem.run_bind, run_und hu, Result.andThen_ok]
        cases d <;> first | exact absurd rfl (hd _) | simp [he, run_zero hi hz]
  · cases hx
    split at hg <;> try exact absurd hg hfl
    refine ⟨_, .tuple #[zero, .bool false], hg, VR.tuple' (.cons (selfOk_VR hzs) (.cons (.bool false) .nil)), ?_⟩
    simp only [Instr.typeAssert, Sem.run_bind, run_und hu, Result.andThen_ok]
    cases d <;> first | exact absurd rfl (hd _) | simp [run_zero hi hz]

/-! ## binary operations -/
theorem intB_sound (hfl : ¬ good fl) {op : BinOp} {k : IntKind} {a b : Int} {κ : Value → β} (hg : good (intB fl op k a b κ)) {kb : IntKind} (hk : kb = k ∨ op = .shl ∨ op = .shr) (t : TypeId) :
    ∃ v, good (κ v) ∧ VR φ v v ∧ (binOp op t (.int k a) (.int kb b)).run P w = .ok v w := by
  cases op <;> simp only [intB, fiK_eq, fbK_eq, wrapB_eq, iltB_eq, ieqB_eq] at hg
  case shl =>
    split at hg <;> try exact absurd hg hfl
    rename_i hb; have hb : ¬ b < 0 := by simpa using hb
    exact ⟨_, hg, .int _ _, by simp [binOp, Op.shift, hb]⟩
  case shr =>
    split at hg <;> try exact absurd hg hfl
    rename_i hb; have hb : ¬ b < 0 := by simpa using hb
    exact ⟨_, hg, .int _ _, by simp [binOp, Op.shift, hb]⟩
  all_goals (have hk : kb = k := by rcases hk with h | h | h <;> first | exact h | cases h)
  all_goals subst hk
  case quo =>
    split at hg <;> try exact absurd hg hfl
    rename_i hb; have hb : ¬ b = 0 := by simpa using hb
    exact ⟨_, hg, .int _ _, by simp [binOp, Op.intDiv, hb]⟩
  case rem =>
    split at hg <;> try exact absurd hg hfl
    rename_i hb; have hb : ¬ b = 0 := by simpa using hb
    exact ⟨_, hg, .int _ _, by simp [binOp, Op.intDiv, hb]⟩
  case add => exact ⟨_, hg, .int _ _, by simp [binOp, Op.intArith]⟩
  case sub => exact ⟨_, hg, .int _ _, by simp [binOp, Op.intArith]; rfl⟩
  case mul => exact ⟨_, hg, .int _ _, by simp [binOp, Op.intArith]⟩
  case and => exact ⟨_, hg, .int _ _, by simp [binOp, Op.intBits]⟩
  case or => exact ⟨_, hg, .int _ _, by simp [binOp, Op.intBits]⟩
  case xor => exact ⟨_, hg, .int _ _, by simp [binOp, Op.intBits]⟩
  case andNot => exact ⟨_, hg, .int _ _, by simp [binOp, Op.intBits]⟩
  case eql => exact ⟨_, hg, .bool _, by simp [binOp, Op.intCmp]; rfl⟩
  case neq => exact ⟨_, hg, .bool _, by simp [binOp, Op.intCmp]; rfl⟩
  case lss => exact ⟨_, hg, .bool _, by simp [binOp, Op.intCmp]⟩
  case leq => exact ⟨_, hg, .bool _, by simp [binOp, Op.intCmp]; rw [Bool.eq_iff_iff]; simp⟩
  case gtr => exact ⟨_, hg, .bool _, by simp [binOp, Op.intCmp]⟩
  case geq => exact ⟨_, hg, .bool _, by simp [binOp, Op.intCmp]; rw [Bool.eq_iff_iff]; simp⟩

theorem eqOp_sound (hr : HR P φ h w) {op : BinOp} {t : TypeId} {x y : Operand} {a b a' b' : Value} {r : Bool} (hop : op = .eql ∨ op = .neq) (hgd : P.eqGuardType P.depth t = false)
    (ha : VR φ a a') (hb : VR φ b b') (he : eqB P h 100 t a b = some r)
    (hni : ¬ (∃ k n k' m, a = .int k n ∧ b = .int k' m)) (hns : ¬ (∃ s s', a = .string s ∧ b = .string s')) (hnn : ¬ (a = .nilIface ∧ b = .nilIface)) :
    ((do eqGuard op t x y a' b'; binOp op t a' b') : Sem Value).run P w = .ok (.bool (if op = .eql then r else !r)) w := by
  have hq := eqB_sound hr 100 10000 (by omega) t a b a' b' r he ha hb
  have hq' : (Op.equal t a' b').run P w = .ok r w := hq
  have hg : (eqGuard op t x y a' b').run P w = .ok () w := by
    rcases hop with rfl | rfl <;> cases ha <;> first
      | (simp [eqGuard]; done)
      | (cases hb <;> first | (simp [eqGuard, hgd]; done) | exact absurd ⟨rfl, rfl⟩ hnn)
  have hbin : (binOp op t a' b').run P w = .ok (.bool (if op = .eql then r else !r)) w := by
    rcases hop with rfl | rfl <;> cases ha <;> first
      | (simp [binOp, hq']; done)
      | (cases hb <;> first | (simp [binOp, hq']; done) | exact absurd ⟨_, _, _, _, rfl, rfl⟩ hni | exact absurd ⟨_, _, rfl, rfl⟩ hns)
  simp [hg, hbin]

end Go.Vai
