/-
  PROVED HERE: a part of the proof, by a calculus of weakest conditions over an abstract heap (VaiS4, VaiS5, VaiS6, VaiS7, VaiS8, VaiS9).
-/
import Derived.Test.YtmfinibgeafebaaGreatDoorH0
import Derived.Laws.Small
import Derived.Laws.Append
import Derived.Laws.AppendOwn
set_option linter.unusedVariables false
set_option linter.unusedSimpArgs false
namespace Go.Vai
open Go
variable {β : Type} {fl : β} {good : β → Prop} {P : Program} {φ : Emb} {h : Heap} {w : World} {t : TypeId}

theorem openCap_val : openCap = 1267650600228229401496703205376 := rfl
theorem anyCap_val : anyCap = 1267650600228229401496703205377 := rfl

theorem basicOk_VR {v : Value} (hv : basicOk v = true) : VR φ v v := by
  cases v <;> simp only [basicOk] at hv <;> try (cases hv; done)
  · exact .bool _
  · exact .int _ _
  · exact .string _
  · rename_i a; cases a
    · exact .ptrNil
    · simp at hv
  · rename_i a n c; cases a
    · exact .sliceNil (ble_t hv)
    · simp at hv
  · rename_i r; cases r
    · exact .mapNil
    · simp at hv
  · exact .nilFunc
  · exact .nilIface
theorem basicL_VR {l : List Value} (h : l.all basicOk = true) : F2 (VR φ) l l := by
  induction l with
  | nil => exact .nil
  | cons v l ih => simp at h; exact .cons (basicOk_VR h.1) (ih (by simpa using h.2))
theorem selfOk_VR {v : Value} (hv : selfOk v = true) : VR φ v v := by
  cases v
  case agg cs => exact VR.agg' (basicL_VR hv)
  case tuple cs => exact VR.tuple' (basicL_VR hv)
  case iface t v => exact .iface t (basicOk_VR hv)
  all_goals exact basicOk_VR hv
theorem scal1_eq {v v' : Value} (hs : scal1 v = true) (hv : VR φ v v') : v' = v := by
  cases v <;> simp [scal1] at hs <;> cases hv <;> rfl
theorem scalL_eq {l l' : List Value} (hs : l.all scal1 = true) (hv : F2 (VR φ) l l') : l' = l := by
  induction hv with
  | nil => rfl
  | cons hr _ ih => simp at hs; rw [scal1_eq hs.1 hr, ih (by simpa using hs.2)]
theorem scal_eq {v v' : Value} (hs : scal v = true) (hv : VR φ v v') : v' = v := by
  cases v
  case agg cs =>
    cases hv with
    | agg _ a' h1 h2 =>
      have := scalL_eq (φ := φ) hs (F2.of_get h1 h2)
      congr 1
      exact Array.ext' this
  all_goals exact scal1_eq hs hv

/-! ## slices -/
theorem sliceOut_sound {b o s l hh m : Nat} {pl : Pl} (hp : φ b = some pl) (h1 : l ≤ hh) (h2 : hh ≤ m) (h3 : m < openCap) {κ : Value → β} (hg : good (sliceOut b o s l hh m κ)) :
    ∃ v, good (κ v) ∧ VR φ v (.slice (some (if m = l then ⟨pl.B, o, none⟩ else (⟨pl.B, o, none⟩ : Addr).add (l * s))) (hh - l) (m - l)) := by
  unfold sliceOut at hg
  split at hg
  · rename_i he; have he := beq_t he; subst he
    simp only [fnK_eq] at hg
    refine ⟨_, hg, ?_⟩
    rw [if_pos rfl]
    have e1 : hh - m = 0 := by omega
    have e2 : m - m = 0 := by omega
    rw [show Nat.sub hh m = 0 from e1, e1, e2]
    exact .slice hp (Nat.le_refl _) (by rw [openCap_val]; omega)
  · rename_i he; have he := beq_f he
    simp only [fnK_eq] at hg
    refine ⟨_, hg, ?_⟩
    rw [if_neg he, addr_add]
    exact .slice hp (show hh - l ≤ m - l by omega) (show m - l < openCap by omega)

theorem run_sliceAt {e s : Nat} {a : Option Addr} {len cap l hh m : Nat} {lo hi mx : Option Value} (hu : P.underlying t = some (.slice e)) (hs : szOf P e = some s)
    (hb : (Instr.sliceBounds true len cap lo hi mx).run P w = .ok (l, hh, m) w) :
    (Instr.sliceAt t (.slice a len cap) lo hi mx).run P w = .ok (.slice (if m = l then a else a.map (·.add (l * s))) (hh - l) (m - l)) w := by
  simp [Instr.sliceAt, Instr.slice, run_und hu, hb, run_size hs]

theorem HR.known (hr : HR P φ h w) {e b n : Nat} {pl : Pl} (hk : knownOf h e b = some n) (hp : φ b = some pl) : n ≤ pl.sz ∧ n ≤ 4611686018427387904 ∧ szOf P e = some pl.e ∧ 0 < pl.e := by
  unfold knownOf at hk
  split at hk
  · rename_i hb
    split at hk <;> try (cases hk; done)
    rename_i he; have he := beq_t he; subst he
    cases hk
    have := hr.obj b _ pl hb hp
    cases hO : w.heap[pl.B]? with
    | none => rw [hO] at this; exact this.elim
    | some O =>
      rw [hO] at this
      cases O <;> simp only [OR] at this <;> try exact this.elim
      obtain ⟨_, _, h3, h4, h5, _⟩ := this
      obtain ⟨g1, g2, g3⟩ := h5 trivial
      exact ⟨by omega, h4, g2, g3⟩
  · rename_i hb
    split at hk <;> try (cases hk; done)
    rename_i he; have he := beq_t he; subst he
    cases hk
    have := hr.obj b _ pl hb hp
    cases hO : w.heap[pl.B]? with
    | none => rw [hO] at this; exact this
    | some O => rw [hO] at this; cases O <;> exact this
  · cases hk

theorem sliceB_sound (hfl : ¬ good fl) {e s : Nat} (hu : P.underlying t = some (.slice e)) (hs : szOf P e = some s) (hr : HR P φ h w)
    {x x' : Value} {lo hi mx lo' hi' mx' : Option Value} {κ : Value → Heap → β} (hg : good (sliceB fl e s x lo hi mx h κ)) (hx : VR φ x x') (h1 : OVR φ lo lo') (h2 : OVR φ hi hi') (h3 : OVR φ mx mx') :
    ∃ v v', good (κ v h) ∧ VR φ v v' ∧ (Instr.sliceAt t x' lo' hi' mx').run P w = .ok v' w := by
  unfold sliceB at hg
  split at hg <;> try exact absurd hg hfl
  · -- nil
    rename_i len cap
    cases hx with
    | sliceNil hle =>
      obtain ⟨l, hh, m, g1, g2, g3⟩ := boundsB_sound (w := w) hfl hg h1 h2 h3 (Nat.le_refl cap) true
      rcases g3 with ⟨_, rfl, g4, g5⟩ | ⟨_, g6, g7, g4, g5⟩
      · simp only [fnK_eq] at g4
        refine ⟨_, _, g4, ?_, run_sliceAt hu hs g5⟩
        have : (if m = l then (none : Option Addr) else Option.map (fun a : Addr => a.add (l * s)) none) = none := by split <;> rfl
        rw [this]
        exact .sliceNil (show hh - l ≤ m - l by omega)
      · simp only [fnK_eq] at g4
        refine ⟨_, _, g4, ?_, run_sliceAt hu hs g5⟩
        have : (if m = l then (none : Option Addr) else Option.map (fun a : Addr => a.add (l * s)) none) = none := by split <;> rfl
        rw [this]
        exact .sliceNil (show hh - l ≤ m - l by omega)
  · rename_i b o len cap
    split at hg
    · -- any
      rename_i hc; have hc := beq_t hc; subst hc
      split at hg <;> try exact absurd hg hfl
      rename_i hl; have hl := beq_t hl; subst hl
      have : ∃ a' c, x' = .slice (some a') 0 c := by
        cases hx with
        | slice hp hn hc => exact ⟨_, _, rfl⟩
        | sliceAny a a' c => exact ⟨a', c, rfl⟩
      obtain ⟨a', c, rfl⟩ := this
      obtain ⟨l, hh, m, g1, g2, g3⟩ := boundsB_sound (w := w) hfl hg h1 h2 h3 (Nat.zero_le c) true
      have hh0 : hh = 0 := by omega
      have hl0 : l = 0 := by omega
      subst hh0; subst hl0
      have fin : ∀ m', VR φ (.slice (some ⟨b, o, none⟩) 0 anyCap) (.slice (if m' = 0 then some a' else Option.map (fun a : Addr => a.add (0 * s)) (some a')) (0 - 0) (m' - 0)) := by
        intro m'
        have : (if m' = 0 then some a' else Option.map (fun a : Addr => a.add (0 * s)) (some a')) = some a' := by split <;> simp [Addr.add]
        rw [this]
        exact .sliceAny _ _ _
      rcases g3 with ⟨_, rfl, g4, g5⟩ | ⟨_, g6, g7, g4, g5⟩
      · exact ⟨_, _, g4, fin _, run_sliceAt hu hs g5⟩
      · exact ⟨_, _, g4, fin _, run_sliceAt hu hs g5⟩
    · rename_i hna; have hna := beq_f hna
      split at hg
      · -- exact
        rename_i hno; have hno := beq_f hno
        split at hg <;> try exact absurd hg hfl
        rename_i hcl; have hcl := ble_t hcl
        cases hx with
        | sliceOpen hp hn hc => exact absurd rfl hno
        | sliceAny a a' c => exact absurd rfl hna
        | sliceEnd a' hp hc => exact absurd hcl (by unfold endCap; omega)
        | slice hp hn hc =>
          rename_i pl
          obtain ⟨l, hh, m, g1, g2, g3⟩ := boundsB_sound (w := w) hfl hg h1 h2 h3 (Nat.le_refl cap) true
          rcases g3 with ⟨_, rfl, g4, g5⟩ | ⟨_, g6, g7, g4, g5⟩
          · obtain ⟨v, k1, k2⟩ := sliceOut_sound hp g1 (by omega) hc g4
            refine ⟨v, _, k1, ?_, run_sliceAt hu hs g5⟩
            by_cases hm : m = l
            · simpa [hm] using k2
            · simpa [hm] using k2
          · obtain ⟨v, k1, k2⟩ := sliceOut_sound hp g1 (by omega) (by omega) g4
            refine ⟨v, _, k1, ?_, run_sliceAt hu hs g5⟩
            by_cases hm : m = l
            · simpa [hm] using k2
            · simpa [hm] using k2
      · -- open
        rename_i hno; have hno := beq_t hno; subst hno
        split at hg <;> try exact absurd hg hfl
        rename_i n s0 hk
        split at hg <;> try exact absurd hg hfl
        rename_i hon; have hon := ble_t hon
        have hx' : ∃ pl c, φ b = some pl ∧ len ≤ c ∧ c * pl.e + o = pl.sz ∧ x' = .slice (some ⟨pl.B, o, none⟩) len c := by
          cases hx with
          | slice hp hn hc => exact absurd hc (Nat.lt_irrefl _)
          | sliceOpen hp hn hc => exact ⟨_, _, hp, hn, hc, rfl⟩
        obtain ⟨pl, c, hp, hn, hc, rfl⟩ := hx'
        obtain ⟨k1, k2, k3, k4⟩ := hr.known hk hp
        have e2 : pl.e = s0 + 1 := by rw [hs] at k3; exact (Option.some.inj k3).symm
        have hlim : Nat.div (Nat.sub n o) (s0 + 1) ≤ c := by
          show (n - o) / (s0 + 1) ≤ c
          have hc2 := hc
          rw [e2] at hc2
          apply Nat.div_le_of_le_mul
          rw [Nat.mul_comm]
          omega
        obtain ⟨l, hh, m, g1, g2, g3⟩ := boundsB_sound (w := w) hfl hg h1 h2 h3 hlim true
        have hlb : Nat.div (Nat.sub n o) (s0 + 1) ≤ 4611686018427387904 := Nat.le_trans (Nat.div_le_self _ _) (by show n - o ≤ _; omega)
        rcases g3 with ⟨_, rfl, g4, g5⟩ | ⟨_, g6, g7, g4, g5⟩
        · split at g4
          · split at g4
            · rename_i hl; have hl := beq_t hl
              simp only [fnK_eq] at g4
              refine ⟨_, _, g4, ?_, run_sliceAt hu hs g5⟩
              have e1 : hh - l = 0 := by omega
              rw [e1]
              by_cases hm : c = l
              · rw [if_pos hm]; exact .sliceEnd _ hp (.inl (by omega))
              · rw [if_neg hm]
                simp only [Option.map_some, addr_add]
                refine .sliceEnd _ hp (.inr ⟨rfl, ?_⟩)
                show (c - l) * pl.e + (o + l * (s0 + 1)) = pl.sz
                rw [← hc, e2, Nat.sub_mul]
                have : l * (s0 + 1) ≤ c * (s0 + 1) := Nat.mul_le_mul_right _ (by omega)
                omega
            · rename_i hl; have hl := beq_f hl
              simp only [fnK_eq] at g4
              refine ⟨_, _, g4, ?_, run_sliceAt hu hs g5⟩
              have hm : ¬ c = l := by omega
              rw [if_neg hm]
              simp only [Option.map_some, addr_add]
              refine .sliceOpen hp (show hh - l ≤ c - l by omega) ?_
              show (c - l) * pl.e + (o + l * (s0 + 1)) = pl.sz
              have hcl : l ≤ c := by omega
              rw [← hc, Nat.sub_mul]
              have : l * pl.e ≤ c * pl.e := Nat.mul_le_mul_right _ hcl
              rw [← e2]
              omega
          · rename_i hf; exact absurd rfl (beq_f hf)
        · split at g4
          · rename_i hf; have hf := beq_t hf; rw [openCap_val] at hf; omega
          · obtain ⟨v, j1, j2⟩ := sliceOut_sound hp g1 g6 (by rw [openCap_val]; omega) g4
            refine ⟨v, _, j1, ?_, run_sliceAt hu hs g5⟩
            by_cases hm : m = l
            · simpa [hm] using j2
            · simpa [hm] using j2

theorem sliceS_sound (hfl : ¬ good fl) (hu : P.underlying t = some .string)
    {x x' : Value} {lo hi mx lo' hi' mx' : Option Value} {κ : Value → Heap → β} (hg : good (sliceS fl x lo hi mx h κ)) (hx : VR φ x x') (h1 : OVR φ lo lo') (h2 : OVR φ hi hi') (h3 : OVR φ mx mx') :
    ∃ v v', good (κ v h) ∧ VR φ v v' ∧ (Instr.sliceAt t x' lo' hi' mx').run P w = .ok v' w := by
  unfold sliceS at hg
  split at hg <;> try exact absurd hg hfl
  rename_i s
  cases hx
  cases mx' with
  | some _ => exact h3.elim
  | none =>
    obtain ⟨l, hh, m, g1, g2, g3⟩ := boundsB_sound (P := P) (w := w) hfl hg h1 h2 (mx := none) (mx' := none) trivial (Nat.le_refl s.size) false
    rcases g3 with ⟨_, rfl, g4, g5⟩ | ⟨g6, _⟩
    · refine ⟨_, .string (s.extract l hh), g4, .string _, ?_⟩
      simp [Instr.sliceAt, Instr.slice, run_und hu, g5]
    · exact absurd rfl g6

/-! ## look-ups -/
theorem checkKey_sound : ∀ (d : Nat) (D : Nat), d ≤ D → ∀ (t : TypeId) (v : Value) (em : Bool), keyOk P d t v = true → (Instr.checkKey em D t v).run P w = .ok () w := by
  intro d
  induction d with
  | zero => intro D _ t v em hk; simp [keyOk] at hk
  | succ d ih =>
    intro D hD t v em hk
    obtain ⟨D, rfl⟩ : ∃ k, D = k + 1 := ⟨D - 1, by omega⟩
    simp only [keyOk] at hk
    split at hk <;> try (cases hk; done)
    · rename_i hu; simp [Instr.checkKey, run_und hu]
    · rename_i hu; simp [Instr.checkKey, run_und hu]
    · rename_i hu; simp [Instr.checkKey, run_und hu]
    · rename_i fs cs hu
      simp only [Bool.and_eq_true] at hk
      obtain ⟨_, hk⟩ := hk
      simp only [Instr.checkKey, Sem.run_bind, run_und hu, Result.andThen_ok]
      rw [← Array.forIn_toList]
      generalize fs.toList = l at hk
      clear hu
      induction l with
      | nil => simp
      | cons f l ihl =>
        simp only [List.all_cons, Bool.and_eq_true] at hk
        obtain ⟨hf, hk⟩ := hk
        have hrest := ihl hk
        have hone : ∃ x, (part f.type cs f.offset).run P w = .ok x w ∧ (Instr.checkKey em D f.type x).run P w = .ok () w := by
          split at hf <;> try (cases hf; done)
          · rename_i hag hsz
            exact ⟨_, part_sound hag hsz cs f.offset, ih D (by omega) _ _ em hf⟩
          · rename_i hag hsz
            split at hf <;> try (cases hf; done)
            rename_i v hv
            refine ⟨v, ?_, ih D (by omega) _ _ em hf⟩
            have := part_sound (w := w) hag hsz cs f.offset
            rw [this]; simp only [hv]
        obtain ⟨x, hx1, hx2⟩ := hone
        simp only [List.forIn_cons, Sem.run_bind, Sem.run_ite]
        split
        · simp only [hx1, hx2, Result.andThen_ok, Sem.run_pure]
          exact hrest
        · simp only [Sem.run_pure, Result.andThen_ok]
          exact hrest

theorem keyOk_scal {d : Nat} {v : Value} (hk : keyOk P d t v = true) : scal v = true := by
  cases d with
  | zero => simp [keyOk] at hk
  | succ d =>
    simp only [keyOk] at hk
    split at hk <;> try (cases hk; done)
    · rfl
    · rfl
    · rfl
    · simp only [Bool.and_eq_true] at hk; exact hk.1

theorem findAsking_sound (hr : HR P φ h w) {kt : TypeId} {k k' : Value} (hk : VR φ k k') : ∀ (es es' : List MapEntry) (i : Nat) (r : Option (Nat × MapEntry)), F2 (ER φ) es es' → findB P h kt k es i = some r →
    ∃ r' : Option (Nat × Value), (Instr.findAsking kt k' es' i).run P w = .ok r' w ∧
      match r, r' with
      | none, none => True
      | some (j, e), some (j', v') => j' = j ∧ i ≤ j ∧ es[j - i]? = some e ∧ VR φ e.val v' ∧ eqB P h 100 kt k e.key = some true
      | _, _ => False := by
  intro es
  induction es with
  | nil => intro es' i r h2 hf; cases h2; simp only [findB] at hf; cases hf; exact ⟨none, by simp [Instr.findAsking], trivial⟩
  | cons e es ih =>
    intro es' i r h2 hf
    cases h2 with
    | cons he h2 =>
      rename_i e' es'
      simp only [findB] at hf
      have key : ∀ q, eqB P h 100 kt k e.key = some q → (Op.equal kt k' e'.key).run P w = .ok q w := fun q hq => eqB_sound hr 100 10000 (by omega) kt _ _ _ _ q hq hk he.key
      split at hf
      · rename_i hq
        cases hf
        exact ⟨some (i, e'.val), by simp [Instr.findAsking, key _ hq], rfl, Nat.le_refl _, by simp, he.val, hq⟩
      · rename_i hq
        obtain ⟨r', h3, h4⟩ := ih es' (i + 1) r h2 hf
        refine ⟨r', by simp [Instr.findAsking, key _ hq, h3], ?_⟩
        cases r with
        | none => cases r' with
          | none => trivial
          | some _ => exact h4.elim
        | some p =>
          cases r' with
          | none => exact h4
          | some p' =>
            obtain ⟨g1, g2, g3, g4, g5⟩ := h4
            refine ⟨g1, by omega, ?_, g4, g5⟩
            rw [show p.1 - i = (p.1 - (i + 1)) + 1 by omega]; simpa using g3
      · cases hf

theorem sameNow_sound {D : Nat} {d : TypeDesc} {kt : TypeId} (hu : P.underlying kt = some d) {a b : Value} {q : Bool} (hs : Instr.sameNow d a b = some q) : (Op.equalIn (D + 1) kt a b).run P w = .ok q w := by
  unfold Instr.sameNow at hs
  split at hs <;> try (cases hs; done)
  · split at hs <;> try (cases hs; done)
    rename_i hk; subst hk; cases hs
    simp [Op.equalIn, run_und hu]
  · cases hs; simp [Op.equalIn, run_und hu]
  · cases hs; simp [Op.equalIn, run_und hu]

theorem findNow_sound {d : TypeDesc} {kt : TypeId} (hu : P.underlying kt = some d) {k : Value} : ∀ (es : List MapEntry) (i : Nat) (r : Option (Nat × Value)), Instr.findNow d k es i = some r → (Instr.findAsking kt k es i).run P w = .ok r w := by
  intro es
  induction es with
  | nil => intro i r hf; simp only [Instr.findNow] at hf; cases hf; simp [Instr.findAsking]
  | cons e es ih =>
    intro i r hf
    simp only [Instr.findNow] at hf
    split at hf
    · rename_i hq; cases hf
      simp [Instr.findAsking, Op.equal, sameNow_sound (D := 9999) (w := w) hu hq, Op.maxDepth]
    · rename_i hq
      simp [Instr.findAsking, Op.equal, sameNow_sound (D := 9999) (w := w) hu hq, Op.maxDepth, ih _ _ hf]
    · cases hf

theorem findKey_run {kt : TypeId} {d : TypeDesc} (hu : P.underlying kt = some d) {k : Value} {es : List MapEntry} {r : Option (Nat × Value)} (ha : (Instr.findAsking kt k es 0).run P w = .ok r w) :
    (Instr.findKey kt k es).run P w = .ok r w := by
  simp only [Instr.findKey, Sem.run_bind, run_und hu, Result.andThen_ok]
  cases hn : Instr.findNow d k es 0 with
  | none => simpa using ha
  | some r' =>
    have := findNow_sound (w := w) hu es 0 r' hn
    rw [ha] at this
    injection this with e1 e2
    subst e1
    simp

theorem keyOk_und {d : Nat} {v : Value} (hk : keyOk P d t v = true) : ∃ u, P.underlying t = some u := by
  cases d with
  | zero => simp [keyOk] at hk
  | succ d =>
    simp only [keyOk] at hk
    cases hu : P.underlying t with
    | none => rw [hu] at hk; simp at hk
    | some u => exact ⟨u, rfl⟩

theorem lookupE_sound (hfl : ¬ good fl) {kt et : TypeId} (hu : P.underlying t = some (.map kt et)) (ok : Bool)
    (hr : HR P φ h w) {m m' k k' : Value} {κ : Option Value → β} (hg : good (lookupE fl P kt m k h κ)) (hm : VR φ m m') (hk : VR φ k k') :
    ∃ r r' : Option Value, good (κ r) ∧ OVR φ r r' ∧ (Instr.lookup t m' k' ok).run P w = (match r' with
      | some v => .ok (if ok then .tuple #[v, .bool true] else v) w
      | none => ((zeroValue et).run P w).andThen fun z w => .ok (if ok then .tuple #[z, .bool false] else z) w) := by
  unfold lookupE at hg
  split at hg <;> try exact absurd hg hfl
  rename_i hko
  have hsc := keyOk_scal hko
  have hkk := scal_eq hsc hk
  subst hkk
  have hck : ∀ em, (Instr.checkKey em 10000 kt k').run P w = .ok () w := fun em => checkKey_sound 20 10000 (by omega) kt k' em hko
  obtain ⟨u, hku⟩ := keyOk_und hko
  cases hm <;> try exact absurd hg hfl
  · refine ⟨none, none, hg, trivial, ?_⟩
    have hfk : (Instr.findKey kt k' []).run P w = .ok none w := findKey_run hku (by simp [Instr.findAsking])
    simp only [Instr.lookup, Sem.run_bind, run_und hu, Result.andThen_ok, Sem.run_pure, hck, hfk]
    (try cases (zeroValue et).run P w <;> simp [Result.andThen])
  · rename_i r pl hp
    simp only at hg
    split at hg <;> try exact absurd hg hfl
    rename_i es clock hb
    obtain ⟨es', hO, h2⟩ := hr.mapAt hb hp
    split at hg
    · rename_i j e hf
      obtain ⟨r', g3, g4⟩ := findAsking_sound hr hk es es'.toList 0 _ h2 hf
      cases r' with
      | none => exact g4.elim
      | some p =>
        obtain ⟨j', v'⟩ := p
        obtain ⟨rfl, _, _, g5, _⟩ := g4
        refine ⟨some e.val, some v', hg, g5, ?_⟩
        simp [Instr.lookup, run_und hu, run_getMap hO, hck, findKey_run hku g3]
    · rename_i hf
      obtain ⟨r', g3, g4⟩ := findAsking_sound hr hk es es'.toList 0 _ h2 hf
      cases r' with
      | some p => exact g4.elim
      | none =>
        refine ⟨none, none, hg, trivial, ?_⟩
        simp only [Instr.lookup, Sem.run_bind, run_und hu, Result.andThen_ok, Sem.run_pure, run_getMap hO, hck, findKey_run hku g3]
        (try cases (zeroValue et).run P w <;> simp [Result.andThen])
    · exact absurd hg hfl

theorem lookupB_sound (hfl : ¬ good fl) {kt et : TypeId} {zero : Value} {inf : TypeInfo} (hu : P.underlying t = some (.map kt et)) (hi : P.info? et = some inf) (hz : inf.zero = some zero) (hzs : selfOk zero = true) (ok : Bool)
    (hr : HR P φ h w) {m m' k k' : Value} {κ : Value → Heap → β} (hg : good (lookupB fl P kt zero ok m k h κ)) (hm : VR φ m m') (hk : VR φ k k') :
    ∃ v v', good (κ v h) ∧ VR φ v v' ∧ (Instr.lookup t m' k' ok).run P w = .ok v' w := by
  obtain ⟨r, r', g1, g2, g3⟩ := lookupE_sound hfl hu ok hr hg hm hk
  cases r <;> cases r' <;> (try exact g2.elim) <;> cases ok <;> simp only at g1
  · exact ⟨_, zero, g1, selfOk_VR hzs, by rw [g3]; simp [run_zero hi hz]⟩
  · exact ⟨_, .tuple #[zero, .bool false], g1, VR.tuple' (.cons (selfOk_VR hzs) (.cons (.bool false) .nil)), by rw [g3]; simp [run_zero hi hz]⟩
  · exact ⟨_, _, g1, g2, by rw [g3]; simp⟩
  · exact ⟨_, .tuple #[_, .bool true], g1, VR.tuple' (.cons g2 (.cons (.bool true) .nil)), by rw [g3]; simp⟩

theorem typeAssertB_sound (hfl : ¬ good fl) {xt asserted : TypeId} {zero : Value} {inf : TypeInfo} {d : TypeDesc} (hu : P.underlying asserted = some d) (hd : ∀ ms, d ≠ .interface ms) (hi : P.info? asserted = some inf) (hz : inf.zero = some zero) (hzs : selfOk zero = true) (ok : Bool)
    {x x' : Value} {κ : Value → Heap → β} (hg : good (typeAssertB fl asserted zero ok x h κ)) (hx : VR φ x x') :
    ∃ v v', good (κ v h) ∧ VR φ v v' ∧ (Instr.typeAssert x' xt asserted ok).run P w = .ok v' w := by
  unfold typeAssertB at hg
  split at hg <;> try exact absurd hg hfl
  · rename_i t v
    cases hx with
    | iface _ hv =>
      rename_i v'
      split at hg <;> try exact absurd hg hfl
      · rename_i he; have he := beq_t he; subst he
        refine ⟨_, .tuple #[v', .bool true], hg, VR.tuple' (.cons hv (.cons (.bool true) .nil)), ?_⟩
        simp only [Instr.typeAssert, Sem.run_bind, run_und hu, Result.andThen_ok]
        cases d <;> first | exact absurd rfl (hd _) | simp
      · rename_i he; have he := beq_t he; subst he
        refine ⟨_, v', hg, hv, ?_⟩
        simp only [Instr.typeAssert, Sem.run_bind, run_und hu, Result.andThen_ok]
        cases d <;> first | exact absurd rfl (hd _) | simp
      · rename_i he; have he := beq_f he
        refine ⟨_, .tuple #[zero, .bool false], hg, VR.tuple' (.cons (selfOk_VR hzs) (.cons (.bool false) .nil)), ?_⟩
        simp only [Instr.typeAssert, Sem.run_bind, run_und hu, Result.andThen_ok]
        cases d <;> first | exact absurd rfl (hd _) | simp [he, run_zero hi hz]
  · cases hx
    split at hg <;> try exact absurd hg hfl
    refine ⟨_, .tuple #[zero, .bool false], hg, VR.tuple' (.cons (selfOk_VR hzs) (.cons (.bool false) .nil)), ?_⟩
    simp only [Instr.typeAssert, Sem.run_bind, run_und hu, Result.andThen_ok]
    cases d <;> first | exact absurd rfl (hd _) | simp [run_zero hi hz]

/-! ## binary operations -/
theorem intB_sound (hfl : ¬ good fl) {op : BinOp} {k : IntKind} {a b : Int} {κ : Value → β} (hg : good (intB fl op k a b κ)) {kb : IntKind} (hk : kb = k ∨ op = .shl ∨ op = .shr) (t : TypeId) :
    ∃ v, good (κ v) ∧ VR φ v v ∧ (binOp op t (.int k a) (.int kb b)).run P w = .ok v w := by
  cases op <;> simp only [intB, fiK_eq, fbK_eq, wrapB_eq, iltB_eq, ieqB_eq] at hg
  case shl =>
    split at hg <;> try exact absurd hg hfl
    rename_i hb; have hb : ¬ b < 0 := by simpa using hb
    exact ⟨_, hg, .int _ _, by simp [binOp, Op.shift, hb]⟩
  case shr =>
    split at hg <;> try exact absurd hg hfl
    rename_i hb; have hb : ¬ b < 0 := by simpa using hb
    exact ⟨_, hg, .int _ _, by simp [binOp, Op.shift, hb]⟩
  all_goals (have hk : kb = k := by rcases hk with h | h | h <;> first | exact h | cases h)
  all_goals subst hk
  case quo =>
    split at hg <;> try exact absurd hg hfl
    rename_i hb; have hb : ¬ b = 0 := by simpa using hb
    exact ⟨_, hg, .int _ _, by simp [binOp, Op.intDiv, hb]⟩
  case rem =>
    split at hg <;> try exact absurd hg hfl
    rename_i hb; have hb : ¬ b = 0 := by simpa using hb
    exact ⟨_, hg, .int _ _, by simp [binOp, Op.intDiv, hb]⟩
  case add => exact ⟨_, hg, .int _ _, by simp [binOp, Op.intArith]⟩
  case sub => exact ⟨_, hg, .int _ _, by simp [binOp, Op.intArith]; rfl⟩
  case mul => exact ⟨_, hg, .int _ _, by simp [binOp, Op.intArith]⟩
  case and => exact ⟨_, hg, .int _ _, by simp [binOp, Op.intBits]⟩
  case or => exact ⟨_, hg, .int _ _, by simp [binOp, Op.intBits]⟩
  case xor => exact ⟨_, hg, .int _ _, by simp [binOp, Op.intBits]⟩
  case andNot => exact ⟨_, hg, .int _ _, by simp [binOp, Op.intBits]⟩
  case eql => exact ⟨_, hg, .bool _, by simp [binOp, Op.intCmp]; rfl⟩
  case neq => exact ⟨_, hg, .bool _, by simp [binOp, Op.intCmp]; rfl⟩
  case lss => exact ⟨_, hg, .bool _, by simp [binOp, Op.intCmp]⟩
  case leq => exact ⟨_, hg, .bool _, by simp [binOp, Op.intCmp]; rw [Bool.eq_iff_iff]; simp⟩
  case gtr => exact ⟨_, hg, .bool _, by simp [binOp, Op.intCmp]⟩
  case geq => exact ⟨_, hg, .bool _, by simp [binOp, Op.intCmp]; rw [Bool.eq_iff_iff]; simp⟩

theorem eqOp_sound (hr : HR P φ h w) {op : BinOp} {t : TypeId} {x y : Operand} {a b a' b' : Value} {r : Bool} (hop : op = .eql ∨ op = .neq) (hgd : P.eqGuardType P.depth t = false)
    (ha : VR φ a a') (hb : VR φ b b') (he : eqB P h 100 t a b = some r)
    (hni : ¬ (∃ k n k' m, a = .int k n ∧ b = .int k' m)) (hns : ¬ (∃ s s', a = .string s ∧ b = .string s')) (hnn : ¬ (a = .nilIface ∧ b = .nilIface)) :
    ((do eqGuard op t x y a' b'; binOp op t a' b') : Sem Value).run P w = .ok (.bool (if op = .eql then r else !r)) w := by
  have hq := eqB_sound hr 100 10000 (by omega) t a b a' b' r he ha hb
  have hq' : (Op.equal t a' b').run P w = .ok r w := hq
  have hg : (eqGuard op t x y a' b').run P w = .ok () w := by
    rcases hop with rfl | rfl <;> cases ha <;> first
      | (simp [eqGuard]; done)
      | (cases hb <;> first | (simp [eqGuard, hgd]; done) | exact absurd ⟨rfl, rfl⟩ hnn)
  have hbin : (binOp op t a' b').run P w = .ok (.bool (if op = .eql then r else !r)) w := by
    rcases hop with rfl | rfl <;> cases ha <;> first
      | (simp [binOp, hq']; done)
      | (cases hb <;> first | (simp [binOp, hq']; done) | exact absurd ⟨_, _, _, _, rfl, rfl⟩ hni | exact absurd ⟨_, _, rfl, rfl⟩ hns)
  simp [hg, hbin]

end Go.Vai

namespace Go.Vai
open Go
variable {β : Type} {fl : β} {good : β → Prop} {P : Program} {φ : Emb} {h : Heap} {w : World} {t : TypeId}

theorem binB_sound (hfl : ¬ good fl) (hr : HR P φ h w) {op : BinOp} {t : TypeId} {x y : Operand} {a b a' b' : Value} {κ : Value → Heap → β}
    (hg : good (binB fl P op t ((x matches .const _) || (y matches .const _)) (P.eqGuardType P.depth t) a b h κ)) (ha : VR φ a a') (hb : VR φ b b') :
    ∃ v v', good (κ v h) ∧ VR φ v v' ∧ ((do eqGuard op t x y a' b'; binOp op t a' b') : Sem Value).run P w = .ok v' w := by
  unfold binB at hg
  split at hg
  · rename_i k n k' m
    cases ha; cases hb
    have fin : ∀ op', good (intB fl op' k n m fun v => κ v h) → (k' = k ∨ op' = .shl ∨ op' = .shr) → op' = op →
        ∃ v v', good (κ v h) ∧ VR φ v v' ∧ ((do eqGuard op t x y (.int k n) (.int k' m); binOp op t (.int k n) (.int k' m)) : Sem Value).run P w = .ok v' w := by
      intro op' hg1 hk e
      subst e
      obtain ⟨v, g1, g2, g3⟩ := intB_sound (P := P) (w := w) (φ := φ) hfl hg1 hk t
      refine ⟨v, v, g1, g2, ?_⟩
      rw [eqGuard_at_int]
      simpa using g3
    split at hg
    · rename_i hk; rw [kindEq_eq] at hk
      exact fin _ hg (.inl (by simpa [eq_comm] using hk)) rfl
    · exact fin _ hg (.inr (.inl rfl)) rfl
    · exact fin _ hg (.inr (.inr rfl)) rfl
    · exact absurd hg hfl
  · rename_i s s'
    cases ha; cases hb
    split at hg
    · split at hg <;> try exact absurd hg hfl
      rename_i hle; have hle := ble_t hle
      refine ⟨_, _, hg, .string _, ?_⟩
      have h1 : ¬ ((s.size + s'.size : Nat) : Int) > IntKind.i64.max := by
        rw [IntKind.max_i64]; have : s.size + s'.size ≤ 9223372036854775807 := hle; omega
      have h2 : ¬ (9223372036854775807 : Int) < (s.size : Int) + (s'.size : Int) := by have : s.size + s'.size ≤ 9223372036854775807 := hle; omega
      simp [eqGuard, binOp, Op.stringOp, h2]
    · simp only [fbK_eq, bytesEqB_eq] at hg
      refine ⟨_, _, hg, .bool _, ?_⟩
      rw [← bbeq, beq_toListBytes]
      simp [eqGuard, binOp, Op.stringOp]
    · simp only [fbK_eq, bytesEqB_eq] at hg
      refine ⟨_, _, hg, .bool _, ?_⟩
      rw [← bbeq, beq_toListBytes]
      simp [eqGuard, binOp, Op.stringOp]
    · exact absurd hg hfl
  · cases ha; cases hb
    have hq : ∀ r, eqB P h 100 t .nilIface .nilIface = some r → (Op.equal t .nilIface .nilIface).run P w = .ok r w :=
      fun r he => eqB_sound hr 100 10000 (by omega) t _ _ _ _ r he .nilIface .nilIface
    split at hg <;> try exact absurd hg hfl
    · rename_i hcn
      split at hg <;> try exact absurd hg hfl
      rename_i r he
      simp only [fbK_eq] at hg
      refine ⟨_, _, hg, .bool _, ?_⟩
      cases x <;> cases y <;> simp at hcn <;> simp [eqGuard, binOp, hq r he]
    · rename_i hcn
      split at hg <;> try exact absurd hg hfl
      rename_i r he
      simp only [fbK_eq] at hg
      refine ⟨_, _, hg, .bool _, ?_⟩
      cases x <;> cases y <;> simp at hcn <;> simp [eqGuard, binOp, hq r he]
  · exact absurd hg hfl
  · exact absurd hg hfl
  · exact absurd hg hfl
  · exact absurd hg hfl
  · have n1 : ∀ k n k' m, a = .int k n → b = .int k' m → False := by assumption
    have n2 : ∀ s s', a = .string s → b = .string s' → False := by assumption
    have n3 : a = .nilIface → b = .nilIface → False := by assumption
    split at hg <;> try exact absurd hg hfl
    · rename_i hgd
      split at hg <;> try exact absurd hg hfl
      rename_i r he
      simp only [fbK_eq] at hg
      refine ⟨_, _, hg, .bool _, ?_⟩
      have := eqOp_sound (x := x) (y := y) hr (op := .eql) (.inl rfl) hgd ha hb he (fun ⟨k, n, k', m, e1, e2⟩ => n1 k n k' m e1 e2) (fun ⟨s, s', e1, e2⟩ => n2 s s' e1 e2) (fun ⟨e1, e2⟩ => n3 e1 e2)
      simpa using this
    · rename_i hgd
      split at hg <;> try exact absurd hg hfl
      rename_i r he
      simp only [fbK_eq] at hg
      refine ⟨_, _, hg, .bool _, ?_⟩
      have := eqOp_sound (x := x) (y := y) hr (op := .neq) (.inr rfl) hgd ha hb he (fun ⟨k, n, k', m, e1, e2⟩ => n1 k n k' m e1 e2) (fun ⟨s, s', e1, e2⟩ => n2 s s' e1 e2) (fun ⟨e1, e2⟩ => n3 e1 e2)
      simpa using this

/-- what an operation's own meaning is, as a value -/
theorem run_valued {s : Sem Value} {v : Value} {w' : World} (hs : s.run P w = .ok v w') : ((do pure (Next.value (← s)) : Sem Next)).run P w = .ok (.value v) w' := by simp [hs]

theorem placesAll_sound {z : List Value} {place : Nat → Option (Nat × Nat)} (hp : placesAll P t = some (z, place)) {parts : List (Nat × Value)} {r : Array Value} (hf : Instr.fill place z.toArray parts = some r) :
    P.built t parts = some r ∧ z.all basicOk = true := by
  unfold placesAll at hp
  unfold Program.built
  split at hp <;> try (cases hp; done)
  · rename_i it n e hi hu
    split at hp <;> try (cases hp; done)
    rename_i zv ie hz hie
    split at hp <;> try (cases hp; done)
    rename_i hb
    cases hp
    refine ⟨?_, hb⟩
    simp only [hi, hu, hz, hie]
    simpa using hf
  · rename_i it fs hi hu
    split at hp <;> try (cases hp; done)
    rename_i zv places hz hpl
    split at hp <;> try (cases hp; done)
    rename_i hb
    cases hp
    refine ⟨?_, hb⟩
    simp only [hi, hu, hz, hpl]
    simpa using hf

theorem placesAll_basic {z : List Value} {place : Nat → Option (Nat × Nat)} (hp : placesAll P t = some (z, place)) : z.all basicOk = true := by
  unfold placesAll at hp
  split at hp <;> try (cases hp; done)
  · split at hp <;> try (cases hp; done)
    split at hp <;> try (cases hp; done)
    rename_i hb; cases hp; exact hb
  · split at hp <;> try (cases hp; done)
    split at hp <;> try (cases hp; done)
    rename_i hb; cases hp; exact hb

theorem boundOf_sound {lo hi mx : Option Operand} {f g : Operand → Value} (hv : ∀ y ∈ splitO lo hi mx, VR φ (f y) (g y)) {l hh m : Option Value}
    (hb : boundOf lo.isSome hi.isSome mx.isSome ((splitO lo hi mx).map f) = some (l, hh, m)) :
    OVR φ l (lo.map g) ∧ OVR φ hh (hi.map g) ∧ OVR φ m (mx.map g) := by
  cases lo <;> cases hi <;> cases mx <;> simp [splitO, boundOf] at hb hv <;> obtain ⟨rfl, rfl, rfl⟩ := hb <;> simp_all <;> trivial

set_option maxHeartbeats 1000000 in
theorem compR_sound (hfl : ¬ good fl) {op : Op} {i : XI β} (hc : compR fl P op = some i) {tm : T Value} {ρ : Operand → Value} (hρ : ∀ y ∈ op.operands.toList, VR φ (evv tm y) (ρ y)) (hr : HR P φ h w)
    {κ : Value → Heap → β} (hg : good (i.run tm h κ)) {o : Oper} (ho : o.op = op) :
    ∃ v v', good (κ v h) ∧ VR φ v v' ∧ (execOp ρ o).run P w = .ok (.value v') w := by
  have lift : ∀ {s : Sem Value}, (∃ v v', good (κ v h) ∧ VR φ v v' ∧ s.run P w = .ok v' w) → execOp ρ o = (do pure (Next.value (← s))) →
      ∃ v v', good (κ v h) ∧ VR φ v v' ∧ (execOp ρ o).run P w = .ok (.value v') w := by
    intro s ⟨v, v', g1, g2, g3⟩ e
    exact ⟨v, v', g1, g2, by rw [e]; exact run_valued g3⟩
  cases op <;> simp only [compR] at hc <;> try (cases hc; done)
  case move x =>
    cases hc; rw [XI.run_k1] at hg
    exact ⟨_, ρ x, hg, hρ x (by simp [Op.operands]), by simp [execOp, ho]⟩
  case assign x =>
    cases hc; rw [XI.run_k1] at hg
    exact ⟨_, ρ x, hg, hρ x (by simp [Op.operands]), by simp [execOp, ho]⟩
  case pick c a b =>
    cases hc; rw [XI.run_k3] at hg
    obtain ⟨v, v', g1, g2, g3⟩ := pickB_sound (P := P) (w := w) hfl hg (hρ c (by simp [Op.operands])) (hρ a (by simp [Op.operands])) (hρ b (by simp [Op.operands]))
    exact ⟨v, v', g1, g2, by simp only [execOp, ho]; exact g3⟩
  case build t parts =>
    split at hc <;> try (cases hc; done)
    rename_i z place hp
    split at hc <;> try (cases hc; done)
    rename_i ps hps
    cases hc; rw [XI.run_kn] at hg
    have hb := placesAll_basic hp
    rw [List.map_map] at hg
    obtain ⟨r, r', g1, g2, g3⟩ := fillB_sound (φ := φ) hfl tm ρ place parts.toList ps hps (fun p hpm => hρ p.2 (by simp [Op.operands]; exact ⟨p.1, by simpa using hpm⟩)) z z (basicL_VR hb) _ hg
    obtain ⟨g4, _⟩ := placesAll_sound hp g3
    refine ⟨_, .agg r'.toArray, g1, VR.agg' (by simpa using g2), ?_⟩
    have g5 := run_build (P := P) w t (parts.map fun (i, x) => (i, ρ x)) r'.toArray (by simpa using g4)
    simp only [execOp, ho]
    exact run_valued g5
  case load t a =>
    split at hc <;> try (cases hc; done)
    · rename_i hag hsz; cases hc; rw [XI.run_k1] at hg
      exact lift (loadA_sound hfl hag hsz hg (hρ a (by simp [Op.operands])) hr) (by simp only [execOp, ho])
    · rename_i hag hsz; cases hc; rw [XI.run_k1] at hg
      exact lift (load1_sound hfl hag hg (hρ a (by simp [Op.operands])) hr) (by simp only [execOp, ho])
  case nilCheck x =>
    cases hc; rw [XI.run_k1] at hg
    exact nilB_sound hfl hg (hρ x (by simp [Op.operands])) o ρ x ho rfl
  case binOp op t x y yt =>
    cases hc; rw [XI.run_k2] at hg
    exact lift (binB_sound hfl hr hg (hρ x (by simp [Op.operands])) (hρ y (by simp [Op.operands]))) (by simp only [execOp, ho])
  case unOp op t x =>
    cases hc; rw [XI.run_k1] at hg
    exact lift (unB_sound hfl hg (hρ x (by simp [Op.operands]))) (by simp only [execOp, ho])
  case convert src dst x =>
    split at hc <;> try (cases hc; done)
    · rename_i hs hd; cases hc; rw [XI.run_k1] at hg
      exact lift (convI_sound hfl hs hd hg (hρ x (by simp [Op.operands]))) (by simp only [execOp, ho])
    · rename_i hs hd; cases hc; rw [XI.run_k1] at hg
      split at hg <;> try exact absurd hg hfl
      rename_i s hx
      have hv := hρ x (by simp [Op.operands])
      rw [hx] at hv
      generalize hy : ρ x = y at hv
      cases hv
      refine ⟨_, .string s, hg, .string s, ?_⟩
      simp [execOp, ho, convert, run_und hs, run_und hd, hy]
  case makeInterface t x =>
    split at hc <;> try (cases hc; done)
    rename_i d hni hu
    cases hc; rw [XI.run_k1] at hg
    refine ⟨_, .iface t (ρ x), hg, .iface t (hρ x (by simp [Op.operands])), ?_⟩
    have : (Instr.makeInterface t (ρ x)).run P w = .ok (.iface t (ρ x)) w := by
      simp only [Instr.makeInterface, Sem.run_bind, run_und hu, Result.andThen_ok]
      cases d <;> first | exact absurd hu (hni _) | rfl
    simp only [execOp, ho]
    exact run_valued this
  case makeFunc fn first cap =>
    cases fn <;> try (cases hc; done)
    rename_i fn
    cases hc; rw [XI.run_kn] at hg
    have hv : F2 (VR φ) ((first.toList ++ cap.toList).map (evv tm)) ((first.toList ++ cap.toList).map ρ) := F2.map _ fun x hx => hρ x (by simpa [Op.operands] using hx)
    refine ⟨_, .func (.func fn) (first.map ρ) (cap.map ρ), hg, ?_, by simp [execOp, ho, Instr.makeFunc]⟩
    refine VR.func' ?_ ?_
    · have := hv.take first.toList.length
      simpa using this
    · have := hv.drop first.toList.length
      simpa using this
  case slice t x lo hi mx =>
    have hx : VR φ (evv tm x) (ρ x) := hρ x (by simp [Op.operands])
    have hbs : ∀ y ∈ splitO lo hi mx, VR φ (evv tm y) (ρ y) := fun y hy => hρ y (by
      cases lo <;> cases hi <;> cases mx <;> simp [splitO] at hy <;> simp [Op.operands, hy])
    split at hc <;> try (cases hc; done)
    · rename_i e hu
      split at hc <;> try (cases hc; done)
      rename_i s hs
      cases hc; rw [XI.run_kn] at hg
      simp only [List.map_cons] at hg
      split at hg <;> try exact absurd hg hfl
      rename_i l hh m hb
      obtain ⟨k1, k2, k3⟩ := boundOf_sound hbs hb
      exact lift (sliceB_sound hfl hu hs hr hg hx k1 k2 k3) (by simp only [execOp, ho])
    · rename_i hu
      cases hc; rw [XI.run_kn] at hg
      simp only [List.map_cons] at hg
      split at hg <;> try exact absurd hg hfl
      rename_i l hh m hb
      obtain ⟨k1, k2, k3⟩ := boundOf_sound hbs hb
      exact lift (sliceS_sound hfl hu hg hx k1 k2 k3) (by simp only [execOp, ho])
  case fieldAddr t x f =>
    split at hc <;> try (cases hc; done)
    rename_i fs hu
    split at hc <;> try (cases hc; done)
    rename_i fld hf
    split at hc <;> try (cases hc; done)
    rename_i s hs
    cases hc; rw [XI.run_k1] at hg
    exact lift (fieldAddrB_sound hfl hu hf hs hg (hρ x (by simp [Op.operands]))) (by simp only [execOp, ho])
  case field t x f =>
    split at hc <;> try (cases hc; done)
    rename_i fs hu
    split at hc <;> try (cases hc; done)
    rename_i fld hf
    split at hc <;> try (cases hc; done)
    rename_i b s hb hs
    cases hc; rw [XI.run_k1] at hg
    exact lift (fieldB_sound hfl hu hf hb hs hg (hρ x (by simp [Op.operands]))) (by simp only [execOp, ho])
  case indexAddr t x i =>
    split at hc <;> try (cases hc; done)
    · rename_i e hu
      split at hc <;> try (cases hc; done)
      rename_i s hs
      cases hc; rw [XI.run_k2] at hg
      exact lift (indexAddrS_sound hfl hu hs hg (hρ x (by simp [Op.operands])) (hρ i (by simp [Op.operands]))) (by simp only [execOp, ho])
    · rename_i len e hu
      split at hc <;> try (cases hc; done)
      rename_i s hs
      cases hc; rw [XI.run_k2] at hg
      exact lift (indexAddrA_sound hfl hu hs hg (hρ x (by simp [Op.operands])) (hρ i (by simp [Op.operands]))) (by simp only [execOp, ho])
  case index t x i =>
    split at hc <;> try (cases hc; done)
    · rename_i len e hu
      split at hc <;> try (cases hc; done)
      rename_i b s hb hs
      cases hc; rw [XI.run_k2] at hg
      exact lift (indexB_sound hfl hu hb hs hg (hρ x (by simp [Op.operands])) (hρ i (by simp [Op.operands]))) (by simp only [execOp, ho])
    · rename_i hu
      cases hc; rw [XI.run_k2] at hg
      exact lift (indexS_sound hfl hu hg (hρ x (by simp [Op.operands])) (hρ i (by simp [Op.operands]))) (by simp only [execOp, ho])
  case lookup t x i ok =>
    split at hc <;> try (cases hc; done)
    rename_i kt et hu
    split at hc <;> try (cases hc; done)
    rename_i z hz
    split at hc <;> try (cases hc; done)
    rename_i hzs
    cases hc; rw [XI.run_k2] at hg
    cases hi : P.info? et with
    | none => rw [hi] at hz; simp at hz
    | some inf =>
      rw [hi] at hz; simp at hz
      exact lift (lookupB_sound hfl hu hi hz hzs ok hr hg (hρ x (by simp [Op.operands])) (hρ i (by simp [Op.operands]))) (by simp only [execOp, ho])
  case typeAssert x xt t ok =>
    split at hc <;> try (cases hc; done)
    rename_i d z hni hu hz
    split at hc <;> try (cases hc; done)
    rename_i hzs
    cases hc; rw [XI.run_k1] at hg
    cases hi : P.info? t with
    | none => rw [hi] at hz; simp at hz
    | some inf =>
      rw [hi] at hz; simp at hz
      exact lift (typeAssertB_sound (xt := xt) hfl hu (fun ms e => hni ms e) hi hz hzs ok hg (hρ x (by simp [Op.operands]))) (by simp only [execOp, ho])
  case extract x i =>
    cases hc; rw [XI.run_k1] at hg
    exact lift (extractB_sound hfl hg (hρ x (by simp [Op.operands]))) (by simp only [execOp, ho])
  case call c =>
    obtain ⟨callee, args, ts⟩ := c
    cases callee <;> (try simp only at hc) <;> try (cases hc; done)
    rename_i b
    cases b <;> (try simp only at hc) <;> try (cases hc; done)
    case len =>
      split at hc <;> try (cases hc; done)
      rename_i x t hx ht
      have hargs : args = #[x] := Array.ext' (by simpa using hx)
      have hxv : VR φ (evv tm x) (ρ x) := hρ x (by simp [Op.operands, Call.operands, hargs])
      have hex : execOp ρ o = (do pure (Next.value (← Builtin.len_ ts o.type #[ρ x]))) := by
        simp [execOp, ho, resolve, invoke, builtin, hargs]
      split at hc <;> try (cases hc; done)
      · rename_i hu; cases hc; rw [XI.run_k1] at hg
        exact lift (lenStr_sound hfl hg hxv ht hu) hex
      · rename_i hu; cases hc; rw [XI.run_k1] at hg
        exact lift (lenSli_sound hfl hg hxv ht hu) hex
      · rename_i hu; cases hc; rw [XI.run_k1] at hg
        exact lift (lenMap_sound hfl hg hxv hr ht hu) hex
    case min =>
      split at hc <;> try (cases hc; done)
      rename_i a b hx
      have hargs : args = #[a, b] := Array.ext' (by simpa using hx)
      have ha : VR φ (evv tm a) (ρ a) := hρ a (by simp [Op.operands, Call.operands, hargs])
      have hb : VR φ (evv tm b) (ρ b) := hρ b (by simp [Op.operands, Call.operands, hargs])
      cases hc; rw [XI.run_k2] at hg
      have hex : execOp ρ o = (do pure (Next.value (← Builtin.min_ ts o.type #[ρ a, ρ b]))) := by simp [execOp, ho, resolve, invoke, builtin, hargs]
      unfold minB at hg
      split at hg <;> try exact absurd hg hfl
      rename_i k x k' y e1 e2
      rw [e1] at ha; rw [e2] at hb
      have e3 : ρ a = .int k x := by generalize ρ a = z at ha; cases ha; rfl
      have e4 : ρ b = .int k' y := by generalize ρ b = z at hb; cases hb; rfl
      have hrun := run_min_int2 (P := P) (w := w) ts o.type k k' x y
      rw [e3, e4] at hex
      split at hg
      · rename_i hlt
        rw [iltB_eq, decide_eq_true_eq] at hlt
        rw [if_pos hlt] at hrun
        exact lift ⟨_, _, hg, .int _ _, hrun⟩ hex
      · rename_i hlt
        rw [iltB_eq, decide_eq_false_iff_not] at hlt
        rw [if_neg hlt] at hrun
        exact lift ⟨_, _, hg, .int _ _, hrun⟩ hex
    case max =>
      split at hc <;> try (cases hc; done)
      rename_i a b hx
      have hargs : args = #[a, b] := Array.ext' (by simpa using hx)
      have ha : VR φ (evv tm a) (ρ a) := hρ a (by simp [Op.operands, Call.operands, hargs])
      have hb : VR φ (evv tm b) (ρ b) := hρ b (by simp [Op.operands, Call.operands, hargs])
      cases hc; rw [XI.run_k2] at hg
      have hex : execOp ρ o = (do pure (Next.value (← Builtin.max_ ts o.type #[ρ a, ρ b]))) := by simp [execOp, ho, resolve, invoke, builtin, hargs]
      unfold maxB at hg
      split at hg <;> try exact absurd hg hfl
      rename_i k x k' y e1 e2
      rw [e1] at ha; rw [e2] at hb
      have e3 : ρ a = .int k x := by generalize ρ a = z at ha; cases ha; rfl
      have e4 : ρ b = .int k' y := by generalize ρ b = z at hb; cases hb; rfl
      have hrun := run_max_int2 (P := P) (w := w) ts o.type k k' x y
      rw [e3, e4] at hex
      split at hg
      · rename_i hlt
        rw [iltB_eq, decide_eq_true_eq] at hlt
        rw [if_pos hlt] at hrun
        exact lift ⟨_, _, hg, .int _ _, hrun⟩ hex
      · rename_i hlt
        rw [iltB_eq, decide_eq_false_iff_not] at hlt
        rw [if_neg hlt] at hrun
        exact lift ⟨_, _, hg, .int _ _, hrun⟩ hex

end Go.Vai

namespace Go.Vai
open Go
variable {β : Type} {fl : β} {good : β → Prop} {P : Program} {φ : Emb} {h : Heap} {w : World} {t : TypeId}

/-! ## cells laid, cells stored -/
noncomputable def lay : List Value → T Value → Nat → T Value
  | [], c, _ => c
  | v :: vs, c, off => lay vs (c.upd off v) (off + 1)
theorem layN_eq (vs : List Value) : ∀ (c : T Value) (off : Nat) (κ : T Value → Nat → β), layN vs c off κ = κ (lay vs c off) (off + vs.length) := by
  induction vs with
  | nil => intro c off κ; rfl
  | cons v vs ih =>
    intro c off κ
    show T.set c off v (fun c => fnK (Nat.succ off) fun off => layN vs c off κ) = _
    rw [T.set_eq, fnK_eq, ih]
    simp only [lay, List.length_cons]
    congr 1; omega
theorem get_lay (vs : List Value) : ∀ (c : T Value) (off : Nat), off + vs.length ≤ 2 ^ 199 → ∀ i, Small i → (lay vs c off).get i = if off ≤ i ∧ i < off + vs.length then vs[i - off]? else c.get i := by
  induction vs with
  | nil => intro c off _ i _; simp [lay]; omega
  | cons v vs ih =>
    intro c off ho i hi
    simp only [List.length_cons] at ho
    have hso : Small off := by unfold Small; omega
    rw [lay, ih _ _ (by omega) i hi, T.get_upd c v hso hi]
    by_cases h1 : off + 1 ≤ i ∧ i < off + 1 + vs.length
    · rw [if_pos h1, if_pos (by simp; omega), show i - off = (i - (off + 1)) + 1 by omega]; simp
    · rw [if_neg h1]
      by_cases h2 : off = i
      · subst h2; simp
      · rw [if_neg h2, if_neg (by simp; omega)]

theorem small_of_le {n m : Nat} (h : n ≤ m) (hm : m ≤ 4611686018427387904) : Small n := by unfold Small; omega

theorem cellsK_good (hfl : ¬ good fl) {vs : List Value} {e : TypeId} {opn : Bool} {κ : AObj → β} (hg : good (cellsK fl vs e opn κ)) :
    vs.length ≤ 1000000000000 ∧ good (κ (.cells vs.length (lay vs .nil 0) e opn)) := by
  unfold cellsK at hg
  rw [layN_eq] at hg
  simp only [Nat.zero_add] at hg
  split at hg
  · rename_i hle; exact ⟨ble_t hle, hg⟩
  · exact absurd hg hfl

theorem OR_new {vs vs' : List Value} (hv : F2 (VR φ) vs vs') (hl : vs.length ≤ 1000000000000) (e : TypeId) (pl : Pl) (rest : List Value) (opn : Bool) (ho : opn = true → (vs' ++ rest).length = pl.sz ∧ szOf P e = some pl.e ∧ 0 < pl.e) :
    OR P φ (.cells vs.length (lay vs .nil 0) e opn) pl (some (.cells (vs' ++ rest).toArray e (0, 0))) := by
  have hlen := hv.length
  refine ⟨rfl, rfl, by simp; omega, by omega, fun h => by simpa using ho h, ?_⟩
  intro i v hget hi
  rw [get_lay vs .nil 0 (by omega) i (by unfold Small; omega), if_pos (by omega)] at hget
  simp only [Nat.sub_zero] at hget
  obtain ⟨v', h1, h2⟩ := hv.get i v hget
  refine ⟨v', ?_, h2⟩
  have : i < vs'.length := by omega
  simp [List.getElem?_append_left this, h1]

theorem newBlock_good (hfl : ¬ good fl) {o : AObj} {κ : Nat → Heap → β} (hg : good (newBlock fl o h κ)) : h.nx ≤ h.nx ∧ good (κ h.nx ⟨h.nx + 1, h.bl.upd h.nx o, h.lo⟩) := by
  unfold newBlock at hg
  rw [T.set_eq, fnK_eq] at hg
  exact ⟨Nat.le_refl _, hg⟩

/-- a place more -/
def addPl (φ : Emb) (b : Nat) (pl : Pl) : Emb := fun x => if x = b then some pl else φ x
theorem addPl_same (φ : Emb) (b : Nat) (pl : Pl) : addPl φ b pl b = some pl := by simp [addPl]
theorem addPl_sub {b : Nat} {pl : Pl} (hb : φ b = none) : Sub φ (addPl φ b pl) := fun x p e => by
  unfold addPl
  split
  · rename_i hx; subst hx; rw [hb] at e; cases e
  · exact e

/-- an abstract block that has no place yet -/
theorem HR.unborn (hr : HR P φ h w) (hn : h.nx ≤ h.nx) (o : AObj) : HR P φ ⟨h.nx + 1, h.bl.upd h.nx o, h.lo⟩ w := by
  have hs : Small h.nx := by unfold Small; omega
  have get_ne : ∀ b, b < h.nx → (h.bl.upd h.nx o).get b = h.bl.get b := fun b hb => T.get_upd_ne _ _ hs (by unfold Small; omega) (by omega)
  refine ⟨?_, ?_, ?_, ?_, ?_, Nat.le_succ_of_le hr.lo⟩
  · intro b o' pl hb hp
    have := (hr.dom b pl hp).1
    exact hr.obj b o' pl ((get_ne b this) ▸ hb) hp
  · intro b pl hp; have := hr.dom b pl hp; exact ⟨by show b < h.nx + 1; omega, this.2⟩
  · intro b o' hsb hb
    show b < h.nx + 1
    rw [T.get_upd _ _ hs hsb] at hb
    split at hb
    · omega
    · have := hr.keys b o' hsb hb; omega
  · show h.nx + 1 < h.nx + 1 + 1; omega
  · intro b b' o1 o2 pl pl' g1 g2 l1 l2 p1 p2 e
    have d1 := (hr.dom b pl p1).1
    have d2 := (hr.dom b' pl' p2).1
    exact hr.inj b b' o1 o2 pl pl' ((get_ne b d1) ▸ g1) ((get_ne b' d2) ▸ g2) l1 l2 p1 p2 e

theorem alloc_get_lt {O : Obj} {B : Nat} (hB : B < w.heap.size) : (w.alloc O).heap[B]? = w.heap[B]? := by
  show (w.heap.push O)[B]? = _
  rw [Array.getElem?_push, if_neg (by omega)]
theorem alloc_get_new {O : Obj} : (w.alloc O).heap[w.heap.size]? = some O := by
  show (w.heap.push O)[w.heap.size]? = _
  simp

/-- a block without a place gets a new one -/
theorem HR.birth (hr : HR P φ h w) {b : Nat} {o : AObj} (hb : h.bl.get b = some o) (hp : φ b = none) (hbn : b < h.nx) {O : Obj} (sz e : Nat) (ho : OR P φ o ⟨w.heap.size, sz, e⟩ (some O)) :
    HR P (addPl φ b ⟨w.heap.size, sz, e⟩) h (w.alloc O) := by
  have hsub := addPl_sub (pl := ⟨w.heap.size, sz, e⟩) hp
  refine ⟨?_, ?_, hr.keys, hr.nxs, ?_, hr.lo⟩
  · intro x o' pl hx hxp
    unfold addPl at hxp
    split at hxp
    · rename_i he; subst he; cases hxp
      rw [hb] at hx; cases hx
      show OR P _ o _ ((w.alloc O).heap[w.heap.size]?)
      rw [alloc_get_new]
      exact ho.mono hsub
    · have hB := (hr.dom x pl hxp).2
      rw [alloc_get_lt hB]
      exact (hr.obj x o' pl hx hxp).mono hsub
  · intro x pl hxp
    unfold addPl at hxp
    split at hxp
    · rename_i he; subst he; cases hxp; exact ⟨hbn, by simp⟩
    · have := hr.dom x pl hxp; exact ⟨this.1, by simp; omega⟩
  · intro x x' o1 o2 pl pl' g1 g2 l1 l2 p1 p2 e
    unfold addPl at p1 p2
    split at p1 <;> split at p2
    · omega
    · rename_i h1 h2; cases p1; have := (hr.dom x' pl' p2).2; simp at e; omega
    · rename_i h1 h2; cases p2; have := (hr.dom x pl p1).2; simp at e; omega
    · exact hr.inj x x' o1 o2 pl pl' g1 g2 l1 l2 p1 p2 e

theorem Ext.birth {φ0 : Emb} {h0 : Heap} {w0 : World} (hx : Ext φ0 φ h0 h w0 w) {b : Nat} (hp : φ b = none) (hb : h0.nx ≤ b) (O : Obj) (hO : UF (some O)) (sz e : Nat) : Ext φ0 (addPl φ b ⟨w.heap.size, sz, e⟩) h0 h w0 (w.alloc O) where
  sub := hx.sub.trans (addPl_sub hp)
  new := fun x pl e0 e1 => by
    unfold addPl at e1
    split at e1
    · rename_i he; subst he; cases e1; exact ⟨hb, .inl hx.size⟩
    · exact hx.new x pl e0 e1
  nx := hx.nx
  size := Nat.le_trans hx.size (by simp)
  frC := fun B hB hn => by
    have := hx.size
    rw [alloc_get_lt (by omega)]; exact hx.frC B hB hn
  frA := hx.frA
  tape := hx.tape
  os := hx.os
  output := hx.output
  lo := hx.lo
  frL := hx.frL
  frW := fun x o pl h1 h2 h3 h4 h5 => by
    have := hx.size
    rw [alloc_get_lt (by omega)]; exact hx.frW x o pl h1 h2 h3 h4 h5
  dr := hx.dr
  fz := fun B h => by
    have h1 := hx.fz B h
    rcases Nat.lt_trichotomy B w.heap.size with hl | hl | hl
    · rw [alloc_get_lt hl]; exact h1
    · subst hl
      have : (w.alloc O).heap[w.heap.size]? = some O := by show (w.heap.push O)[w.heap.size]? = _; simp
      rw [this]; exact hO
    · have : (w.alloc O).heap[B]? = none := by show (w.heap.push O)[B]? = _; simp; omega
      rw [this]; trivial

theorem Ext.unborn {φ0 : Emb} {h0 : Heap} {w0 : World} (hx : Ext φ0 φ h0 h w0 w) (hlo : h.lo ≤ h.nx) (hn : h.nx ≤ h.nx) (o : AObj) : Ext φ0 φ h0 ⟨h.nx + 1, h.bl.upd h.nx o, h.lo⟩ w0 w where
  sub := hx.sub
  new := hx.new
  nx := Nat.le_trans hx.nx (Nat.le_succ _)
  size := hx.size
  frC := hx.frC
  frA := fun b hb hp => by
    have := hx.nx
    rw [← hx.frA b hb hp]
    exact T.get_upd_ne _ _ (by unfold Small; omega) (by unfold Small; omega) (by omega)
  tape := hx.tape
  os := hx.os
  output := hx.output
  fz := hx.fz
  lo := hx.lo
  frW := hx.frW
  dr := hx.dr
  frL := fun b hb => by
    have := hx.lo
    rw [← hx.frL b hb]
    exact T.get_upd_ne _ _ (by unfold Small; omega) (by unfold Small; omega) (by omega)

/-- a new block, with its place -/
theorem HR.fresh (hr : HR P φ h w) (hn : h.nx ≤ h.nx) {o : AObj} {O : Obj} (sz e : Nat) (ho : OR P φ o ⟨w.heap.size, sz, e⟩ (some O)) (hl : o.live) :
    HR P (addPl φ h.nx ⟨w.heap.size, sz, e⟩) ⟨h.nx + 1, h.bl.upd h.nx o, h.lo⟩ (w.alloc O) ∧ Ext φ (addPl φ h.nx ⟨w.heap.size, sz, e⟩) h ⟨h.nx + 1, h.bl.upd h.nx o, h.lo⟩ w (w.alloc O) := by
  have hnone : φ h.nx = none := by
    cases hp : φ h.nx with
    | none => rfl
    | some pl => have := (hr.dom _ _ hp).1; omega
  exact ⟨(hr.unborn hn o).birth (T.get_upd_same _ _ _) hnone (Nat.lt_succ_self _) sz e ho, ((Ext.refl φ h w).unborn hr.lo hn o).birth hnone (Nat.le_refl _) O (UF_of_OR ho hl) sz e⟩

/-! ## operations that make blocks -/
/-- the value that names a block -/
def Names (mk : Nat → Value) : Prop := ∀ (φ : Emb) (b : Nat) (pl : Pl), φ b = some pl → VR φ (mk b) (mk pl.B)

theorem names_ptr : Names ptrTo := fun _ _ _ h => .ptr h
theorem names_map : Names mapTo := fun _ _ _ h => .map h
theorem names_slice {n c : Nat} (h1 : n ≤ c) (h2 : c < openCap) : Names (sliceTo n c) := fun _ _ _ h => .slice h h1 h2

theorem repeatL_length (zs : List Value) (n : Nat) : (repeatL zs n).length = n * zs.length := by
  induction n with
  | zero => simp [repeatL]
  | succ n ih => simp [repeatL, ih, Nat.succ_mul]; omega
theorem repeatL_get (zs : List Value) (n i : Nat) (hi : i < n * zs.length) : (repeatL zs n)[i]? = zs[i % zs.length]? := by
  induction n generalizing i with
  | zero => omega
  | succ n ih =>
    rw [Nat.succ_mul] at hi
    simp only [repeatL]
    rcases Nat.lt_or_ge i zs.length with h1 | h1
    · rw [List.getElem?_append_left h1, Nat.mod_eq_of_lt h1]
    · rw [List.getElem?_append_right h1, ih _ (by omega)]
      congr 1
      exact (Nat.mod_eq_sub_mod h1).symm
theorem zeros_eq (z : Array Value) (n m : Nat) (hm : m = n * z.size) : (Array.range m).map (fun i => z[i % z.size]!) = (repeatL z.toList n).toArray := by
  subst hm
  apply Array.ext'
  simp
  apply List.ext_getElem?
  intro i
  by_cases hi : i < n * z.size
  · have h0 : 0 < z.size := by rcases Nat.eq_zero_or_pos z.size with h | h; · rw [h] at hi; omega
                               · exact h
    have h1 : i % z.size < z.size := Nat.mod_lt _ h0
    rw [repeatL_get _ _ _ (by simpa using hi)]
    simp [hi, h1, getElem!_pos]
  · rw [List.getElem?_eq_none (by simpa using hi), List.getElem?_eq_none (by rw [repeatL_length]; simpa using hi)]

theorem repeatL_basic {zs : List Value} (hz : zs.all basicOk = true) (n : Nat) : (repeatL zs n).all basicOk = true := by
  induction n with
  | zero => rfl
  | succ n ih => simp only [repeatL, List.all_append, hz, ih, Bool.and_self]

theorem zOf_sound {z : List Value} {s : Nat} (h : zOf P t = some (z, s)) : zeroOf P t = some z ∧ szOf P t = some s ∧ z.length = s ∧ 0 < s := by
  unfold zOf at h
  split at h <;> try (cases h; done)
  rename_i z' s' h1 h2
  split at h <;> try (cases h; done)
  rename_i hl
  cases h
  exact ⟨h1, h2, beq_t hl, Nat.succ_pos _⟩

theorem compA_sound (hfl : ¬ good fl) {op : Op} {i : XA β} (hc : compA fl P op = some i) {tm : T Value} {ρ : Operand → Value} (hρ : ∀ y ∈ op.operands.toList, VR φ (evv tm y) (ρ y))
    {κ : AObj → (Nat → Value) → β} (hg : good (i.run tm κ)) {o : Oper} (ho : o.op = op) :
    ∃ ob mk O, good (κ ob mk) ∧ ob.live ∧ (∀ pl, OR P φ ob pl (some O)) ∧ Names mk ∧ (execOp ρ o).run P w = .ok (.value (mk w.heap.size)) (w.alloc O) := by
  have one : ∀ {vs vs' : List Value} {e : TypeId} {mk : Nat → Value} , F2 (VR φ) vs vs' → good (cellsK fl vs e false fun o => κ o mk) → Names mk →
      (∀ O, O = Obj.cells vs'.toArray e (0, 0) → (execOp ρ o).run P w = .ok (.value (mk w.heap.size)) (w.alloc O)) →
      ∃ ob mk O, good (κ ob mk) ∧ ob.live ∧ (∀ pl, OR P φ ob pl (some O)) ∧ Names mk ∧ (execOp ρ o).run P w = .ok (.value (mk w.heap.size)) (w.alloc O) := by
    intro vs vs' e mk hv hg hn hrun
    obtain ⟨h1, h2⟩ := cellsK_good hfl hg
    refine ⟨_, mk, .cells vs'.toArray e (0, 0), h2, trivial, fun pl => ?_, hn, hrun _ rfl⟩
    have := OR_new (P := P) hv h1 e pl [] false (fun e => by cases e)
    simpa using this
  cases op <;> simp only [compA] at hc <;> try (cases hc; done)
  case alloc e =>
    split at hc <;> try (cases hc; done)
    rename_i z hz
    cases hc; rw [XA.run_k0] at hg
    obtain ⟨v, inf, hi, hzv, rfl, hb⟩ := info_of_zero hz
    refine one (basicL_VR hb) hg names_ptr fun O hO => ?_
    subst hO
    simp [execOp, ho, Instr.alloc, run_zero hi hzv, newVar, newRow, ptrTo]
  case box e x =>
    cases hc; rw [XA.run_k1] at hg
    refine one (hρ x (by simp [Op.operands])).cells hg names_ptr fun O hO => ?_
    subst hO
    simp [execOp, ho, Instr.box, newVar, newRow, ptrTo]
  case buildSlice t len parts =>
    split at hc <;> try (cases hc; done)
    rename_i e hu
    split at hc <;> try (cases hc; done)
    rename_i z s hz hlen
    split at hc <;> try (cases hc; done)
    rename_i ps hps hs
    cases hc; rw [XA.run_kn] at hg
    rw [List.map_map] at hg
    obtain ⟨hz1, hz2, hz3, hz4⟩ := zOf_sound hz
    obtain ⟨v, inf, hi, hzv, hzl, hb⟩ := info_of_zero hz1
    have hlen := ble_t hlen
    have hs := ble_t hs
    obtain ⟨r, r', g1, g2, g3⟩ := fillB_sound (φ := φ) hfl tm ρ _ parts.toList ps hps (fun p hpm => hρ p.2 (by simp [Op.operands]; exact ⟨p.1, by simpa using hpm⟩)) _ _ (basicL_VR (repeatL_basic hb len)) _ hg
    refine one g2 g1 (names_slice (Nat.le_refl _) (by rw [openCap_val]; omega)) fun O hO => ?_
    subst hO
    have h1 : ¬ len * s > 2 ^ 24 := by
      have : len * s ≤ 10000 * 1000 := Nat.mul_le_mul hlen hs
      omega
    have hsize : v.cells.size = s := by rw [← hz3, hzl]; simp
    have h2 : (if len * s = 0 then (#[] : Array Value) else v.cells) = (if len * s = 0 then #[] else v.cells) := rfl
    have h3 : (Array.range (len * s)).map (fun i => v.cells[i % v.cells.size]!) = (repeatL z len).toArray := by
      rw [zeros_eq v.cells len (len * s) (by rw [hsize]), hzl]
    have g3' : Instr.fill (fun i => some (i * s, s)) (repeatL z len).toArray (parts.toList.map fun p => (p.1, ρ p.2)) = some r'.toArray := g3
    by_cases h0 : len * s = 0
    · have hl0 : len = 0 := by rcases Nat.mul_eq_zero.1 h0 with h | h <;> omega
      subst hl0
      simp [repeatL] at g3'
      simp [execOp, ho, Instr.buildSlice, run_und hu, run_size hz2, g3', newRow, sliceTo, Array.range_zero']
    · simp [execOp, ho, Instr.buildSlice, run_und hu, run_size hz2, h1, h0, run_zero hi hzv, h3, g3', newRow, sliceTo]
  case makeMap t r =>
    have fin : good (κ (.map [] 0) mapTo) → (execOp ρ o).run P w = .ok (.value (mapTo w.heap.size)) (w.alloc (.map #[] 0)) →
        ∃ ob mk O, good (κ ob mk) ∧ ob.live ∧ (∀ pl, OR P φ ob pl (some O)) ∧ Names mk ∧ (execOp ρ o).run P w = .ok (.value (mk w.heap.size)) (w.alloc O) :=
      fun g1 g2 => ⟨_, mapTo, .map #[] 0, g1, trivial, fun pl => ⟨rfl, .nil⟩, names_map, g2⟩
    split at hc
    · cases hc; rw [XA.run_k0] at hg
      exact fin hg (by simp [execOp, ho, Instr.makeMap, mapTo])
    · rename_i x
      split at hc <;> try (cases hc; done)
      rename_i hu
      cases hc; rw [XA.run_k1] at hg
      split at hg <;> try exact absurd hg hfl
      rename_i k n hx
      have hv := hρ x (by simp [Op.operands])
      rw [hx] at hv
      generalize hy : ρ x = y at hv
      cases hv
      exact fin hg (by simp [execOp, ho, Instr.makeMap, mapTo, run_und hu, hy, asInt, asIntOf])
  case makeSlice t l c =>
    split at hc <;> try (cases hc; done)
    rename_i e hu
    split at hc <;> try (cases hc; done)
    rename_i z s inf hz hi
    split at hc <;> try (cases hc; done)
    rename_i hbytes
    have hbytes := ble_t hbytes
    cases hc; rw [XA.run_k2] at hg
    split at hg <;> try exact absurd hg hfl
    rename_i k1 l' k2 c' hl hcc
    split at hg <;> try exact absurd hg hfl
    rename_i hle hcle
    have hle := ble_t hle
    have hcle := ble_t hcle
    have hv1 := hρ l (by simp [Op.operands])
    have hv2 := hρ c (by simp [Op.operands])
    rw [hl] at hv1
    rw [hcc] at hv2
    generalize hy1 : ρ l = y1 at hv1
    generalize hy2 : ρ c = y2 at hv2
    cases hv1; cases hv2
    obtain ⟨hz1, hz2, hz3, hz4⟩ := zOf_sound hz
    obtain ⟨v, inf', hi', hzv, hzl, hb⟩ := info_of_zero hz1
    rw [hi] at hi'; cases hi'
    refine one (basicL_VR (repeatL_basic hb c')) hg (names_slice hle (by rw [openCap_val]; omega)) fun O hO => ?_
    subst hO
    have w1 : IntKind.i64.wrap (l' : Int) = l' := IntWalk.i64_in _ ⟨by omega, by omega⟩
    have w2 : IntKind.i64.wrap (c' : Int) = c' := IntWalk.i64_in _ ⟨by omega, by omega⟩
    have hbc : (inf.bytes : Int) * (c' : Int) ≤ 2 ^ 48 := by
      have : inf.bytes * c' ≤ 1000000 * 1000000 := Nat.mul_le_mul hbytes hcle
      have h2 : (inf.bytes : Int) * (c' : Int) = ((inf.bytes * c' : Nat) : Int) := by simp
      rw [h2]
      omega
    have hsize : v.cells.size = s := by rw [← hz3, hzl]; simp
    have c1 : decide ((c' : Int) < 0) = false := decide_eq_false (by omega)
    have c2 : decide ((inf.bytes : Int) * (c' : Int) > 2 ^ 48) = false := decide_eq_false (by omega)
    have c3 : ¬ ((l' : Int) < 0) := by omega
    have c4 : ¬ ((l' : Int) > (c' : Int)) := by omega
    have h3 : (Array.range (c' * s)).map (fun i => v.cells[i % v.cells.size]!) = (repeatL z c').toArray := by
      rw [zeros_eq v.cells c' (c' * s) (by rw [hsize]), hzl]
    have hA : (asInt (.int k1 (l' : Int))).run P w = .ok (l' : Int) w := by simp [asInt, asIntOf]
    have hB : (asInt (.int k2 (c' : Int))).run P w = .ok (c' : Int) w := by simp [asInt, asIntOf]
    have hrun : (Instr.makeSlice t (.int k1 (l' : Int)) (.int k2 (c' : Int))).run P w = .ok (sliceTo l' c' w.heap.size) (w.alloc (.cells (repeatL z c').toArray e (0, 0))) := by
      unfold Instr.makeSlice
      simp only [Sem.run_bind, run_und hu, Result.andThen_ok, hA, hB, run_info hi, w1, w2]
      simp only [c1, c2, Bool.or_self, c3, c4]
      by_cases h0 : c' * s = 0
      · have hc0 : c' = 0 := by rcases Nat.mul_eq_zero.1 h0 with h | h <;> omega
        subst hc0
        simp [run_size hz2, newRow, sliceTo, repeatL, Array.range_zero']
      · have h3' : (Array.range (c' * s)).map (fun i => v.cells[i % v.cells.size]!) = (repeatL z c').toArray := h3
        simp [run_size hz2, h0, run_zero hi hzv, h3', newRow, sliceTo]
    simp only [execOp, ho, hy1, hy2]
    exact run_valued hrun

/-! ## stores -/
theorem storeN_good (hfl : ¬ good fl) (n : Nat) : ∀ (vs : List Value) (c : T Value) (off : Nat) (κ : T Value → β), good (storeN fl n vs c off κ) →
    (∀ v ∈ vs, oneC v = true) ∧ (vs ≠ [] → off + vs.length ≤ n) ∧ good (κ (lay vs c off)) := by
  intro vs
  induction vs with
  | nil => intro c off κ hg; exact ⟨fun v hv => (by cases hv), fun hh => absurd rfl hh, hg⟩
  | cons v vs ih =>
    intro c off κ hg
    have hg' : good (Bool.rec (motive := fun _ => β) fl (Bool.rec (motive := fun _ => β) fl (T.set c off v fun c => storeN fl n vs c (Nat.succ off) κ) (Nat.ble (Nat.succ off) n)) (oneC v)) := hg
    cases h1 : oneC v with
    | false => rw [h1] at hg'; exact absurd hg' hfl
    | true =>
      rw [h1] at hg'
      cases h2 : Nat.ble (Nat.succ off) n with
      | false => rw [h2] at hg'; exact absurd hg' hfl
      | true =>
        rw [h2] at hg'
        simp only [T.set_eq] at hg'
        obtain ⟨g1, g2, g3⟩ := ih _ _ _ hg'
        refine ⟨fun u hu => ?_, fun _ => ?_, g3⟩
        · simp at hu; rcases hu with rfl | hu
          · exact h1
          · exact g1 u hu
        · have := ble_t h2
          cases vs with
          | nil => simp; omega
          | cons x vs => have := g2 (by simp); simp at this ⊢; omega

theorem oneC_VR {v v' : Value} (h1 : oneC v = true) (hv : VR φ v v') : v'.oneCell' = true := by
  cases hv <;> first | rfl | (simp [oneC] at h1)

/-- the block of cells behind an abstract one -/
theorem HR.rowAt (hr : HR P φ h w) {b n e : Nat} {c : T Value} {op : Bool} {pl : Pl} (hb : h.bl.get b = some (.cells n c e op)) (hp : φ b = some pl) :
    ∃ C, w.heap[pl.B]? = some (.cells C e (0, 0)) ∧ n ≤ C.size ∧ n ≤ 4611686018427387904 ∧ (op = true → C.size = pl.sz ∧ szOf P e = some pl.e ∧ 0 < pl.e) ∧ ∀ i v, c.get i = some v → i < n → ∃ v', C[i]? = some v' ∧ VR φ v v' := by
  have := hr.obj b _ pl hb hp
  cases hO : w.heap[pl.B]? with
  | none => rw [hO] at this; exact this.elim
  | some O =>
    rw [hO] at this
    cases O <;> simp only [OR] at this <;> try exact this.elim
    obtain ⟨rfl, rfl, h3, h4, h5, h6⟩ := this
    exact ⟨_, rfl, h3, h4, h5, h6⟩

theorem small_nx (hr : HR P φ h w) {b : Nat} (hb : b ≤ h.nx) : Small b := by have := hr.nxs; unfold Small; omega

/-- one block turned, its place kept -/
theorem HR.turn (hr : HR P φ h w) {b : Nat} (hlo : h.lo ≤ b) {o : AObj} {pl : Pl} (hp : φ b = some pl) (hlive : ∃ q, h.bl.get b = some q ∧ q.live) {w' : World}
    (hsz : w'.heap.size = w.heap.size) (hoth : ∀ k, k ≠ pl.B → w'.heap[k]? = w.heap[k]?)
    (ho : OR P φ o pl w'.heap[pl.B]?) (ht : w'.tape = w.tape) (hos : w'.os = w.os) (hout : w'.output = w.output) (hu : o.live ∨ (UF w.heap[pl.B]? → UF w'.heap[pl.B]?)) (hdr : w.drawn ≤ w'.drawn := by exact Nat.le_refl _) :
    HR P φ ⟨h.nx, h.bl.upd b o, h.lo⟩ w' ∧ Ext φ φ h ⟨h.nx, h.bl.upd b o, h.lo⟩ w w' := by
  have hbn := (hr.dom b pl hp).1
  have hsb : Small b := small_nx hr (Nat.le_of_lt hbn)
  have get_ne : ∀ x, x < h.nx → x ≠ b → (h.bl.upd b o).get x = h.bl.get x := fun x hx hxb => T.get_upd_ne _ _ hsb (small_nx hr (Nat.le_of_lt hx)) (Ne.symm hxb)
  obtain ⟨q, hq1, hq2⟩ := hlive
  constructor
  · refine ⟨?_, ?_, ?_, hr.nxs, ?_, hr.lo⟩
    · intro x o' pl' hx hxp
      by_cases hxb : x = b
      · subst hxb
        rw [hp] at hxp; cases hxp
        rw [T.get_upd_same] at hx; cases hx
        exact ho
      · have hxn := (hr.dom x pl' hxp).1
        have hx' : h.bl.get x = some o' := (get_ne x hxn hxb) ▸ hx
        by_cases hB : pl'.B = pl.B
        · -- only a dead block may lie there
          have hd : ¬ o'.live := fun hl => hxb (hr.inj x b o' q pl' pl hx' hq1 hl hq2 hxp hp hB)
          have h1 := hr.obj x o' pl' hx' hxp
          cases o' with
          | dead n e =>
            have h2 : n ≤ pl'.sz ∧ n ≤ 4611686018427387904 ∧ szOf P e = some pl'.e ∧ 0 < pl'.e := by
              cases hO : w.heap[pl'.B]? with
              | none => rw [hO] at h1; exact h1
              | some O => rw [hO] at h1; cases O <;> exact h1
            cases w'.heap[pl'.B]? with
            | none => exact h2
            | some O => cases O <;> exact h2
          | cells => exact absurd trivial hd
          | map => exact absurd trivial hd
          | miter => exact absurd trivial hd
          | siter => exact absurd trivial hd
          | loop => exact absurd trivial hd
          | ro => exact absurd trivial hd
        · rw [hoth _ hB]; exact hr.obj x o' pl' hx' hxp
    · intro x pl' hxp; have := hr.dom x pl' hxp; exact ⟨this.1, by rw [hsz]; exact this.2⟩
    · intro x o' hsx hx
      show x < h.nx
      rw [T.get_upd _ _ hsb hsx] at hx
      split at hx
      · rename_i he; subst he; exact hbn
      · exact hr.keys x o' hsx hx
    · intro x x' o1 o2 pl1 pl2 g1 g2 l1 l2 p1 p2 e
      have n1 := (hr.dom x pl1 p1).1
      have n2 := (hr.dom x' pl2 p2).1
      have key : ∀ y oy py, y < h.nx → (h.bl.upd b o).get y = some oy → oy.live → φ y = some py → ∃ o', h.bl.get y = some o' ∧ o'.live := by
        intro y oy py hy gy ly _
        by_cases hyb : y = b
        · subst hyb; exact ⟨q, hq1, hq2⟩
        · exact ⟨oy, (get_ne y hy hyb) ▸ gy, ly⟩
      obtain ⟨q1, a1, b1⟩ := key x o1 pl1 n1 g1 l1 p1
      obtain ⟨q2, a2, b2⟩ := key x' o2 pl2 n2 g2 l2 p2
      exact hr.inj x x' q1 q2 pl1 pl2 a1 a2 b1 b2 p1 p2 e
  · refine ⟨Sub.refl φ, fun b pl a b' => (by rw [a] at b'; cases b'), Nat.le_refl _, by rw [hsz]; exact Nat.le_refl _, ?_, ?_, ht, hos, hout, ?_, rfl, fun x hx => get_ne x (Nat.lt_of_lt_of_le hx hr.lo) (by omega), fun x o pl' h1 h2 h3 h4 h5 => hoth pl'.B fun e => absurd (hr.inj x b o q pl' pl h2 hq1 h3 hq2 h4 hp e) (by omega), hdr⟩
    · intro B _ hn; exact hoth B fun e => hn b pl hp e.symm
    · intro x hx hn
      exact get_ne x hx fun e => by subst e; rw [hp] at hn; cases hn
    · intro B hB
      by_cases he : B = pl.B
      · subst he
        rcases hu with hu | hu
        · exact UF_of_OR ho hu
        · exact hu hB
      · rw [hoth B he]; exact hB

/-- cells stored into a block -/
theorem HR.storeAt (hr : HR P φ h w) {b n e off : Nat} (hlo : h.lo ≤ b) {c : T Value} {op : Bool} {pl : Pl} (hb : h.bl.get b = some (.cells n c e op)) (hp : φ b = some pl) {vs vs' : List Value} (hv : F2 (VR φ) vs vs')
    (h1 : ∀ v ∈ vs, oneC v = true) (h2 : vs ≠ [] → off + vs.length ≤ n) :
    ∃ w', (storeCells ⟨pl.B, off, none⟩ vs').run P w = .ok () w' ∧ HR P φ ⟨h.nx, h.bl.upd b (.cells n (lay vs c off) e op), h.lo⟩ w' ∧ Ext φ φ h ⟨h.nx, h.bl.upd b (.cells n (lay vs c off) e op), h.lo⟩ w w' := by
  obtain ⟨C, hC, hn1, hn2, hop, hcell⟩ := hr.rowAt hb hp
  have hlen := hv.length
  have hone : ∀ v' ∈ vs', v'.oneCell' = true := by
    intro v' hv'
    obtain ⟨i, hi⟩ := List.getElem?_of_mem hv'
    have hi' : i < vs'.length := (List.getElem?_eq_some_iff.1 hi).1
    have : ∃ v, vs[i]? = some v := ⟨vs[i]'(by omega), List.getElem?_eq_getElem (by omega)⟩
    obtain ⟨v, hvi⟩ := this
    obtain ⟨u, hu1, hu2⟩ := hv.get i v hvi
    rw [hi] at hu1; cases hu1
    exact oneC_VR (h1 v (List.mem_of_getElem? hvi)) hu2
  cases hvs : vs with
  | nil =>
    subst hvs
    cases hv
    refine ⟨w, by simp [storeCells], ?_⟩
    have := hr.turn hlo (o := .cells n (lay [] c off) e op) hp ⟨_, hb, trivial⟩ (w' := w) rfl (fun _ _ => rfl) (by rw [hC]; exact ⟨rfl, rfl, hn1, hn2, hop, hcell⟩) rfl rfl rfl (.inl trivial)
    exact this
  | cons v0 vs0 =>
    have hne : vs ≠ [] := by rw [hvs]; simp
    have hle := h2 hne
    rw [← hvs]
    have hrun := run_storeCells_at P pl.B off e vs' 0 C w hC (by simp; omega) hone
    simp only [Nat.add_zero] at hrun
    refine ⟨_, hrun, ?_⟩
    refine hr.turn hlo hp ⟨_, hb, trivial⟩ (setRow_size _ _ _) (fun k hk => setRow_other _ _ _ _ hk) ?_ rfl rfl rfl (.inl trivial)
    rw [setRow_heap w pl.B C _ e _ hC]
    refine ⟨rfl, rfl, by simp; omega, hn2, fun h => ?_, ?_⟩
    · obtain ⟨k1, k2, k3⟩ := hop h
      refine ⟨?_, k2, k3⟩
      simp
      omega
    · intro i v hget hi
      rw [get_lay vs c off (by omega) i (small_of_le (Nat.le_of_lt hi) hn2)] at hget
      split at hget
      · rename_i hin
        obtain ⟨v', g1, g2⟩ := hv.get _ v hget
        refine ⟨v', ?_, g2⟩
        simp only [List.getElem?_toArray, List.append_assoc]
        rw [List.getElem?_append_right (by simp; omega), List.getElem?_append_left (by simp; omega)]
        rw [← g1]; congr 1; simp; omega
      · rename_i hnin
        obtain ⟨v', g1, g2⟩ := hcell i v hget hi
        refine ⟨v', ?_, g2⟩
        simp only [List.getElem?_toArray, List.append_assoc]
        rcases Nat.lt_or_ge i off with hlt | hge
        · rw [List.getElem?_append_left (by simp; omega), List.getElem?_take_of_lt hlt]; simpa using g1
        · rw [List.getElem?_append_right (by simp; omega), List.getElem?_append_right (by simp; omega), List.getElem?_drop]
          have : off + vs'.length + (i - (List.take off C.toList).length - vs'.length) = i := by simp; omega
          rw [this]; simpa using g1

end Go.Vai

namespace Go.Vai
open Go
variable {β : Type} {fl : β} {good : β → Prop} {P : Program} {φ : Emb} {h : Heap} {w : World} {t : TypeId}

/-- what an operation came to: a value, or nothing -/
def NextIs (nx : Next) (v : Value) : Prop := nx = .value v ∨ (nx = .skip ∧ v = undef)

/-- the outcome of an operation that may write -/
def WOut (good : β → Prop) (P : Program) (φ : Emb) (h : Heap) (w : World) (κ : Value → Heap → β) (r : Result Next) : Prop :=
  ∃ φ' v v' h' w' nx, good (κ v h') ∧ VR φ' v v' ∧ HR P φ' h' w' ∧ Ext φ φ' h h' w w' ∧ r = .ok nx w' ∧ NextIs nx v'

theorem setBlock_good (hfl : ¬ good fl) {b : Nat} {o : AObj} {κ : Heap → β} (hg : good (setBlock fl b o h κ)) : h.lo ≤ b ∧ good (κ ⟨h.nx, h.bl.upd b o, h.lo⟩) := by
  unfold setBlock at hg
  split at hg
  · rename_i hle
    rw [T.set_eq] at hg
    exact ⟨ble_t hle, hg⟩
  · exact absurd hg hfl

theorem storeV_sound (hfl : ¬ good fl) {s : Nat} (hs : szOf P t = some s) (hr : HR P φ h w) {a a' x x' : Value} {κ : Value → Heap → β} (hg : good (storeV fl s a x h κ)) (ha : VR φ a a') (hx : VR φ x x') :
    ∃ h' w', good (κ undef h') ∧ HR P φ h' w' ∧ Ext φ φ h h' w w' ∧ (Instr.storeAt t a' x').run P w = .ok () w' := by
  unfold storeV at hg
  split at hg <;> try exact absurd hg hfl
  cases ha with
  | ptr hp =>
    split at hg <;> try exact absurd hg hfl
    rename_i n c e op hb
    split at hg <;> try exact absurd hg hfl
    rename_i hl; have hl := beq_t hl
    obtain ⟨g1, g2, g3⟩ := storeN_good hfl _ _ _ _ _ hg
    obtain ⟨hlo, g3⟩ := setBlock_good hfl g3
    obtain ⟨w', k1, k2, k3⟩ := hr.storeAt hlo hb hp hx.cells g1 g2
    refine ⟨_, w', g3, k2, k3, ?_⟩
    have hsz : x'.cells.size = s := by have := hx.cells.length; simp at this hl; omega
    simp [Instr.storeAt, Instr.sureAddr, storeVar, run_size hs, hsz, k1]

/-! ## maps -/
theorem snocK_eq (x : MapEntry) (es : List MapEntry) (κ : List MapEntry → β) : snocK x es κ = κ (es ++ [x]) := by
  induction es generalizing κ with
  | nil => rfl
  | cons e es ih => simp only [snocK, ih, List.cons_append]
theorem setAt_eq (f : MapEntry → MapEntry) : ∀ (i : Nat) (es : List MapEntry) (κ : List MapEntry → β), setAt f i es κ = κ (es.modify i f) := by
  intro i es
  induction es generalizing i with
  | nil => intro κ; cases i <;> simp [setAt]
  | cons e es ih => intro κ; cases i <;> simp [setAt, ih]
theorem delAt_eq : ∀ (i : Nat) (es : List MapEntry) (κ : List MapEntry → β), delAt i es κ = κ (es.eraseIdx i) := by
  intro i es
  induction es generalizing i with
  | nil => intro κ; cases i <;> simp [delAt]
  | cons e es ih => intro κ; cases i <;> simp [delAt, ih]

/-- a map turned -/
theorem HR.mapSet (hr : HR P φ h w) {b clock clock' : Nat} (hlo : h.lo ≤ b) {es es1 : List MapEntry} {es1' : Array MapEntry} {pl : Pl} (hb : h.bl.get b = some (.map es clock)) (hp : φ b = some pl)
    (h1 : F2 (ER φ) es1 es1'.toList) :
    ∃ w', (setObj pl.B (.map es1' clock')).run P w = .ok () w' ∧ HR P φ ⟨h.nx, h.bl.upd b (.map es1 clock'), h.lo⟩ w' ∧ Ext φ φ h ⟨h.nx, h.bl.upd b (.map es1 clock'), h.lo⟩ w w' := by
  obtain ⟨es', hO, h2⟩ := hr.mapAt hb hp
  have hlt : pl.B < w.heap.size := (hr.dom b pl hp).2
  refine ⟨{ w with heap := w.heap.setIfInBounds pl.B (.map es1' clock') }, by simp [setObj, Sem.run, hO], ?_⟩
  refine hr.turn hlo hp ⟨_, hb, trivial⟩ (by simp) (fun k hk => ?_) ?_ rfl rfl rfl (.inl trivial)
  · show (w.heap.setIfInBounds pl.B (.map es1' clock'))[k]? = _
    exact Array.getElem?_setIfInBounds_ne (Ne.symm hk)
  · show OR P φ _ pl ((w.heap.setIfInBounds pl.B (.map es1' clock'))[pl.B]?)
    rw [Array.getElem?_setIfInBounds_self_of_lt hlt]
    exact ⟨rfl, h1⟩

theorem F2.modify {α γ : Type} {R : α → γ → Prop} {f : α → α} {g : γ → γ} {l : List α} {m : List γ} (hl : F2 R l m) (hfg : ∀ a b, R a b → R (f a) (g b)) (i : Nat) : F2 R (l.modify i f) (m.modify i g) := by
  induction hl generalizing i with
  | nil => simp; exact .nil
  | cons hr ht ih => cases i with
    | zero => simp; exact .cons (hfg _ _ hr) ht
    | succ i => simp; exact .cons hr (ih i)
theorem F2.eraseIdx {α γ : Type} {R : α → γ → Prop} {l : List α} {m : List γ} (hl : F2 R l m) (i : Nat) : F2 R (l.eraseIdx i) (m.eraseIdx i) := by
  induction hl generalizing i with
  | nil => simp; exact .nil
  | cons hr ht ih => cases i with
    | zero => simpa using ht
    | succ i => simp; exact .cons hr (ih i)

theorem sameBits_scal {a : Value} (hs : scal a = true) : Instr.sameBits 10000 a a = true := by
  have one : ∀ {n : Nat} {v : Value}, scal1 v = true → Instr.sameBits n v v = true := by
    intro n v hv
    cases v <;> simp [scal1] at hv <;> simp [Instr.sameBits, bbeq]
  cases a
  case agg cs =>
    simp only [scal] at hs
    simp only [Instr.sameBits, beq_self_eq_true, Bool.true_and]
    generalize cs.toList = l at hs
    induction l with
    | nil => simp
    | cons v l ih => simp only [List.all_cons, Bool.and_eq_true] at hs; simp [one hs.1]; simpa using ih hs.2
  all_goals exact one hs

theorem veqL_eq {f : Value → Value → Bool} (hf : ∀ a b, f a b = true → a = b) : ∀ (l m : List Value), veqL f l m = true → l = m := by
  intro l
  induction l with
  | nil => intro m hm; cases m <;> simp [veqL] at hm; rfl
  | cons x l ih => intro m hm; cases m with
    | nil => simp [veqL] at hm
    | cons y m => simp only [veqL, Bool.and_eq_true] at hm; rw [hf _ _ hm.1, ih _ hm.2]
theorem veq_eq : ∀ (n : Nat) (a b : Value), veq n a b = true → a = b := by
  intro n
  induction n with
  | zero => intro a b hv; simp [veq] at hv
  | succ n ih =>
    intro a b hv
    simp only [veq] at hv
    split at hv <;> try (cases hv; done)
    · simp at hv; rw [hv]
    · simp [kindEq_eq, ieqB_eq] at hv; rw [hv.1, hv.2]
    · simp [bytesEqB_eq] at hv; rw [hv]
    · rfl
    · simp only [Bool.and_eq_true] at hv; rw [beq_t hv.1, beq_t hv.2]
    · simp only [Bool.and_eq_true] at hv; rw [beq_t hv.1, beq_t hv.2]
    · simp only [Bool.and_eq_true] at hv; obtain ⟨⟨⟨h1, h2⟩, h3⟩, h4⟩ := hv; rw [beq_t h1, beq_t h2, beq_t h3, beq_t h4]
    · rfl
    · rw [beq_t hv]
    · rfl
    · rfl
    · simp only [Bool.and_eq_true] at hv; rw [beq_t hv.1, ih _ _ hv.2]
    · congr 1; exact Array.ext' (veqL_eq ih _ _ hv)
    · congr 1; exact Array.ext' (veqL_eq ih _ _ hv)
    · simp only [Bool.and_eq_true] at hv; obtain ⟨⟨h1, h2⟩, h3⟩ := hv
      rw [beq_t h1, Array.ext' (veqL_eq ih _ _ h2), Array.ext' (veqL_eq ih _ _ h3)]

theorem mapUpdateB_sound (hfl : ¬ good fl) {kt et : TypeId} (hu : P.underlying t = some (.map kt et)) (hr : HR P φ h w) {m m' k k' x x' : Value} {κ : Value → Heap → β}
    (hg : good (mapUpdateB fl P kt m k x h κ)) (hm : VR φ m m') (hk : VR φ k k') (hx : VR φ x x') :
    ∃ h' w', good (κ undef h') ∧ HR P φ h' w' ∧ Ext φ φ h h' w w' ∧ (Instr.mapUpdate t m' k' x').run P w = .ok () w' := by
  unfold mapUpdateB at hg
  split at hg <;> try exact absurd hg hfl
  rename_i hko
  have hsc := keyOk_scal hko
  have hkk := scal_eq hsc hk
  subst hkk
  have hck : ∀ em, (Instr.checkKey em 10000 kt k').run P w = .ok () w := fun em => checkKey_sound 20 10000 (by omega) kt k' em hko
  obtain ⟨u, hku⟩ := keyOk_und hko
  split at hg <;> try exact absurd hg hfl
  cases hm with
  | map hp =>
    rename_i pl
    split at hg <;> try exact absurd hg hfl
    rename_i es clock hb
    obtain ⟨es', hO, h2⟩ := hr.mapAt hb hp
    split at hg
    · rename_i i e hf
      split at hg <;> try exact absurd hg hfl
      rename_i hes
      rw [setAt_eq] at hg
      obtain ⟨hlo, hg⟩ := setBlock_good hfl hg
      obtain ⟨r', g3, g4⟩ := findAsking_sound hr hk es es'.toList 0 _ h2 hf
      cases r' with
      | none => exact g4.elim
      | some p =>
        obtain ⟨i', v'⟩ := p
        obtain ⟨rfl, _, g6, _, _⟩ := g4
        simp only [Nat.sub_zero] at g6
        obtain ⟨e', he1, he2⟩ := h2.get _ _ g6
        have hke := veq_eq 3 _ _ hes
        have hkey : e'.key = k' := by
          have h3 := he2.key
          rw [← hke] at h3
          exact scal_eq hsc h3
        have hsame : (Instr.keyThatStays (((es'[i']?).map (·.key)).getD k') k').run P w = .ok k' w := by
          have : es'[i']? = some e' := by simpa using he1
          simp [Instr.keyThatStays, this, hkey, sameBits_scal hsc]
        have hnew : F2 (ER φ) (es.modify i' fun e => { e with key := k', val := x }) (es'.modify i' fun e => { e with key := k', val := x' }).toList := by
          rw [Array.toList_modify]
          exact h2.modify (f := fun e => { e with key := k', val := x }) (g := fun e => { e with key := k', val := x' }) (fun a b hab => ⟨hk, hx, hab.born⟩) i'
        obtain ⟨w', k1, k2, k3⟩ := hr.mapSet hlo (clock' := clock) hb hp hnew
        refine ⟨_, w', hg, k2, k3, ?_⟩
        simp [Instr.mapUpdate, run_und hu, run_getMap hO, hck, findKey_run hku g3, hsame, k1]
    · rename_i hf
      rw [snocK_eq, fnK_eq] at hg
      obtain ⟨hlo, hg⟩ := setBlock_good hfl hg
      obtain ⟨r', g3, g4⟩ := findAsking_sound hr hk es es'.toList 0 _ h2 hf
      cases r' with
      | some p => exact g4.elim
      | none =>
        have hnew : F2 (ER φ) (es ++ [{ key := k', val := x, born := clock }]) (es'.push { key := k', val := x', born := clock }).toList := by
          rw [Array.toList_push]
          exact h2.append (.cons ⟨hk, hx, rfl⟩ .nil)
        obtain ⟨w', k1, k2, k3⟩ := hr.mapSet hlo (clock' := clock + 1) hb hp hnew
        refine ⟨_, w', hg, k2, k3, ?_⟩
        simp [Instr.mapUpdate, run_und hu, run_getMap hO, hck, findKey_run hku g3, k1]
    · exact absurd hg hfl

end Go.Vai

namespace Go.Vai
open Go
variable {β : Type} {fl : β} {good : β → Prop} {P : Program} {φ : Emb} {h : Heap} {w : World} {t : TypeId}

theorem deleteB_sound (hfl : ¬ good fl) {kt et ty : TypeId} {ts : Array TypeId} (ht : ts[0]? = some t) (hu : P.underlying t = some (.map kt et)) (hr : HR P φ h w) {m m' k k' : Value} {κ : Value → Heap → β}
    (hg : good (deleteB fl P kt m k h κ)) (hm : VR φ m m') (hk : VR φ k k') :
    ∃ h' w', good (κ (.tuple #[]) h') ∧ HR P φ h' w' ∧ Ext φ φ h h' w w' ∧ (Builtin.delete_ ts ty #[m', k']).run P w = .ok (.tuple #[]) w' := by
  unfold deleteB at hg
  split at hg <;> try exact absurd hg hfl
  rename_i hko
  have hsc := keyOk_scal hko
  have hkk := scal_eq hsc hk
  subst hkk
  have hck : ∀ em, (Instr.checkKey em 10000 kt k').run P w = .ok () w := fun em => checkKey_sound 20 10000 (by omega) kt k' em hko
  obtain ⟨u, hku⟩ := keyOk_und hko
  cases hm <;> try exact absurd hg hfl
  · exact ⟨h, w, hg, hr, Ext.refl _ _ _, by simp [Builtin.delete_, ht, run_und hu, hck]⟩
  · rename_i r pl hp
    simp only at hg
    split at hg <;> try exact absurd hg hfl
    rename_i es clock hb
    obtain ⟨es', hO, h2⟩ := hr.mapAt hb hp
    split at hg
    · rename_i i e hf
      rw [delAt_eq] at hg
      obtain ⟨hlo, hg⟩ := setBlock_good hfl hg
      obtain ⟨r', g3, g4⟩ := findAsking_sound hr hk es es'.toList 0 _ h2 hf
      cases r' with
      | none => exact g4.elim
      | some p =>
        obtain ⟨i', v'⟩ := p
        obtain ⟨rfl, _, g6, _, _⟩ := g4
        have hnew : F2 (ER φ) (es.eraseIdx i') (es'.eraseIdxIfInBounds i').toList := by
          have : (es'.eraseIdxIfInBounds i').toList = es'.toList.eraseIdx i' := by
            unfold Array.eraseIdxIfInBounds
            split
            · simp
            · rename_i hn; rw [List.eraseIdx_of_length_le (by simpa using hn)]
          rw [this]
          exact h2.eraseIdx i'
        obtain ⟨w', k1, k2, k3⟩ := hr.mapSet hlo (clock' := clock) hb hp hnew
        exact ⟨_, w', hg, k2, k3, by simp [Builtin.delete_, ht, run_und hu, run_getMap hO, hck, findKey_run hku g3, k1]⟩
    · rename_i hf
      obtain ⟨r', g3, g4⟩ := findAsking_sound hr hk es es'.toList 0 _ h2 hf
      cases r' with
      | some p => exact g4.elim
      | none =>
        have hself : (setObj pl.B (.map es' clock)).run P w = .ok () w := by
          have hlt : pl.B < w.heap.size := (hr.dom r pl hp).2
          simp [setObj, Sem.run, hO]
          have : w.heap.setIfInBounds pl.B (.map es' clock) = w.heap := by
            apply Array.ext_getElem?
            intro i
            by_cases hi : i = pl.B
            · subst hi; rw [Array.getElem?_setIfInBounds_self_of_lt hlt, hO]
            · rw [Array.getElem?_setIfInBounds_ne (Ne.symm hi)]
          rw [this]
        exact ⟨h, w, hg, hr, Ext.refl _ _ _, by simp [Builtin.delete_, ht, run_und hu, run_getMap hO, hck, findKey_run hku g3, hself]⟩
    · exact absurd hg hfl

/-- an iterator over a map -/
theorem HR.iterAt (hr : HR P φ h w) {b since stepped : Nat} {m : Option Nat} {seen : List Nat} {pl : Pl} (hb : h.bl.get b = some (.miter m since seen stepped)) (hp : φ b = some pl) :
    ∃ m' seen', w.heap[pl.B]? = some (.mapIter m' since seen' stepped) ∧ seen'.toList = seen.reverse ∧ ((m = none ∧ m' = none) ∨ ∃ b pl', m = some b ∧ φ b = some pl' ∧ m' = some pl'.B) := by
  have := hr.obj b _ pl hb hp
  cases hO : w.heap[pl.B]? with
  | none => rw [hO] at this; exact this.elim
  | some O =>
    rw [hO] at this
    cases O <;> simp only [OR] at this <;> try exact this.elim
    obtain ⟨rfl, rfl, h3, h4⟩ := this
    exact ⟨_, _, rfl, h3, h4⟩

theorem rangeB_sound (hfl : ¬ good fl) {kt et : TypeId} (hu : P.underlying t = some (.map kt et)) (hr : HR P φ h w) {x x' : Value} {κ : Value → Heap → β} (hg : good (rangeB fl x h κ)) (hx : VR φ x x') :
    ∃ φ' v v' h' w', good (κ v h') ∧ VR φ' v v' ∧ HR P φ' h' w' ∧ Ext φ φ' h h' w w' ∧ (Instr.range t x').run P w = .ok v' w' := by
  unfold rangeB at hg
  split at hg <;> try exact absurd hg hfl
  · cases hx
    obtain ⟨hn, g1⟩ := newBlock_good hfl hg
    obtain ⟨k1, k2⟩ := hr.fresh (o := .miter none 0 [] 0) (O := .mapIter none 0 #[] 0) hn 0 0 ⟨rfl, rfl, rfl, .inl ⟨rfl, rfl⟩⟩ trivial
    exact ⟨_, _, .pointer (some ⟨w.heap.size, 0, none⟩), _, _, g1, .ptr (addPl_same _ _ _), k1, k2, by simp [Instr.range, run_und hu]⟩
  · split at hg <;> try exact absurd hg hfl
    rename_i r _ es clock hb
    cases hx with
    | map hp =>
      rename_i pl
      obtain ⟨es', hO, h2⟩ := hr.mapAt hb hp
      obtain ⟨hn, g1⟩ := newBlock_good hfl hg
      obtain ⟨k1, k2⟩ := hr.fresh (o := .miter (some r) clock [] clock) (O := .mapIter (some pl.B) clock #[] clock) hn 0 0 ⟨rfl, rfl, rfl, .inr ⟨r, pl, rfl, hp, rfl⟩⟩ trivial
      exact ⟨_, _, .pointer (some ⟨w.heap.size, 0, none⟩), _, _, g1, .ptr (addPl_same _ _ _), k1, k2, by simp [Instr.range, run_und hu, run_getMap hO]⟩

theorem run_getIter {B : Nat} {m : Option Nat} {since stepped : Nat} {seen : Array Nat} (hO : w.heap[B]? = some (.mapIter m since seen stepped)) : (getObj B).run P w = .ok (.mapIter m since seen stepped) w := by
  simp [getObj, Sem.run, hO]

theorem F2.filter {α γ : Type} {R : α → γ → Prop} {f : α → Bool} {g : γ → Bool} {l : List α} {m : List γ} (hl : F2 R l m) (hfg : ∀ a b, R a b → f a = g b) : F2 R (l.filter f) (m.filter g) := by
  induction hl with
  | nil => exact .nil
  | @cons a b l m hr _ ih =>
    simp only [List.filter_cons, hfg a b hr]
    split
    · exact .cons hr ih
    · exact ih
theorem F2.allEq {α γ : Type} {R : α → γ → Prop} {f : α → Bool} {g : γ → Bool} {l : List α} {m : List γ} (hl : F2 R l m) (hfg : ∀ a b, R a b → f a = g b) : l.all f = m.all g := by
  induction hl with
  | nil => rfl
  | cons hr _ ih => simp [hfg _ _ hr, ih]

theorem beqNat (a b : Nat) : Nat.beq a b = (a == b) := by rw [Bool.eq_iff_iff]; simp
theorem bleNat (a b : Nat) : Nat.ble a b = decide (a ≤ b) := by rw [Bool.eq_iff_iff]; simp [Nat.ble_eq]

/-- one of those that are left comes -/
theorem anyNext_good (hfl : ¬ good fl) {both : β → β → β} (hboth : ∀ x y, good (both x y) → good x ∧ good y) {b m since clock : Nat} {seen : List Nat} {κ : Value → Heap → β} : ∀ (es : List MapEntry) (e : MapEntry),
    good (anyNext fl both b m since seen clock h κ e es) → ∀ (i : Nat) (x : MapEntry), (e :: es)[i]? = some x → x.born < since ∧ h.lo ≤ b ∧ good (κ (.tuple #[.bool true, x.key, x.val]) ⟨h.nx, h.bl.upd b (.miter (some m) since (x.born :: seen) clock), h.lo⟩) := by
  intro es
  induction es with
  | nil =>
    intro e hg i x hx
    unfold anyNext at hg
    split at hg <;> try exact absurd hg hfl
    rename_i hle
    obtain ⟨hlo, hg⟩ := setBlock_good hfl hg
    cases i with
    | zero => simp at hx; subst hx; exact ⟨ble_t hle, hlo, hg⟩
    | succ i => simp at hx
  | cons e' es ih =>
    intro e hg i x hx
    unfold anyNext at hg
    split at hg <;> try exact absurd hg hfl
    rename_i hle
    obtain ⟨g1, g2⟩ := hboth _ _ hg
    obtain ⟨hlo, g1⟩ := setBlock_good hfl g1
    cases i with
    | zero => simp at hx; subst hx; exact ⟨ble_t hle, hlo, g1⟩
    | succ i => exact ih e' g2 i x (by simpa using hx)

theorem HR.drew (hr : HR P φ h w) : HR P φ h w.drew := ⟨hr.obj, hr.dom, hr.keys, hr.nxs, hr.inj, hr.lo⟩
theorem Ext.drew {φ' : Emb} {h' : Heap} {w' : World} (hx : Ext φ φ' h h' w w') : Ext φ φ' h h' w w'.drew := ⟨hx.sub, hx.new, hx.nx, hx.size, hx.frC, hx.frA, hx.tape, hx.os, hx.output, hx.fz, hx.lo, hx.frL, hx.frW, Nat.le_succ_of_le hx.dr⟩
theorem Ext.ofDrew {φ' : Emb} {h' : Heap} {w' : World} (hx : Ext φ φ' h h' w.drew w') : Ext φ φ' h h' w w' := ⟨hx.sub, hx.new, hx.nx, hx.size, hx.frC, hx.frA, hx.tape, hx.os, hx.output, hx.fz, hx.lo, hx.frL, hx.frW, Nat.le_of_succ_le hx.dr⟩

/-- a choice among n: a number below n, in the world, or one that has drawn -/
theorem run_choose_next (n : Nat) (hn : 0 < n) (w : World) : ∃ k w', k < n ∧ (w' = w ∨ w' = w.drew) ∧ (choose (.mapNext n)).run P w = .ok k w' := by
  by_cases h1 : n ≤ 1
  · refine ⟨0, w, hn, .inl rfl, ?_⟩
    simp [Question.forced, h1]
  · refine ⟨(Question.mapNext n).cut (w.tape w.drawn (.mapNext n)), w.drew, Nat.mod_lt _ hn, .inr rfl, ?_⟩
    simp [choose, Sem.run, Question.forced, h1]

theorem nextB_sound (hfl : ¬ good fl) {both : β → β → β} (hboth : ∀ x y, good (both x y) → good x ∧ good y) {ty : TypeId} (hr : HR P φ h w) {x x' : Value} {κ : Value → Heap → β} (hg : good (nextB fl both x h κ)) (hx : VR φ x x') :
    ∃ v v' h' w', good (κ v h') ∧ VR φ v v' ∧ HR P φ h' w' ∧ Ext φ φ h h' w w' ∧ (Instr.next x' false ty).run P w = .ok v' w' := by
  unfold nextB at hg
  split at hg <;> try exact absurd hg hfl
  cases hx with
  | ptr hp =>
    rename_i b pl
    split at hg <;> try exact absurd hg hfl
    · rename_i since seen stepped hb
      obtain ⟨m', seen', hO, _, h4⟩ := hr.iterAt hb hp
      rcases h4 with ⟨_, rfl⟩ | ⟨b1, pl', h5, _⟩
      · exact ⟨_, .tuple #[.bool false], h, w, hg, VR.tuple' (.cons (.bool false) .nil), hr, Ext.refl _ _ _, by simp [Instr.next, run_getIter hO]⟩
      · cases h5
    · rename_i m since seen last hb
      obtain ⟨m', seen', hO, hseen, h4⟩ := hr.iterAt hb hp
      rcases h4 with ⟨h5, _⟩ | ⟨b1, pl', h5, hp', rfl⟩
      · cases h5
      · cases h5
        split at hg <;> try exact absurd hg hfl
        rename_i es clock hm
        obtain ⟨es', hO', h2⟩ := hr.mapAt hm hp'
        split at hg <;> try exact absurd hg hfl
        rename_i hstr
        have hcont : ∀ e e' : MapEntry, ER φ e e' → (!seen.any (Nat.beq e.born)) = (!seen'.contains e'.born) := by
          intro e e' he
          rw [he.born]
          congr 1
          rw [← Array.contains_toList, hseen, Bool.eq_iff_iff]
          simp
        have hleft : F2 (ER φ) (es.filter fun e => !seen.any (Nat.beq e.born)) (es'.filter fun e => !seen'.contains e.born).toList := by
          rw [Array.toList_filter]
          exact h2.filter hcont
        have hemp : seen'.isEmpty = seen.isEmpty := by
          have : seen'.toList.isEmpty = seen.isEmpty := by rw [hseen]; simp
          rw [← this]; simp
        have hese : es'.isEmpty = es.isEmpty := by
          have : es'.toList.isEmpty = es.isEmpty := by generalize es'.toList = L at h2; cases h2 <;> rfl
          rw [← this]; simp
        have hall : es'.all (fun e => decide (e.born ≥ last)) = es.all (fun e => Nat.ble last e.born) := by
          rw [← Array.all_toList]
          exact (h2.allEq fun a b hab => by rw [hab.born, bleNat]).symm
        have hstr' : (!seen'.isEmpty && !es'.isEmpty && es'.all (fun e => decide (e.born ≥ last))) = false := by
          rw [hemp, hese, hall]; exact hstr
        split at hg
        · -- nothing left
          rename_i hnil
          rw [hnil] at hleft
          have hl0 : es'.filter (fun e => !seen'.contains e.born) = #[] := by
            generalize (es'.filter fun e => !seen'.contains e.born) = L at hleft
            obtain ⟨L⟩ := L
            cases hleft
            rfl
          refine ⟨_, .tuple #[.bool false], h, w, hg, VR.tuple' (.cons (.bool false) .nil), hr, Ext.refl _ _ _, ?_⟩
          simp only [Instr.next, Sem.run_bind, run_getIter hO, run_getMap hO', Result.andThen_ok, hstr', hl0]
          simp [Question.forced]
        · rename_i e0 es0 hcons
          have hpick := anyNext_good hfl hboth es0 e0 hg
          rw [hcons] at hleft
          have hBlt : pl.B < w.heap.size := (hr.dom b pl hp).2
          generalize hL : (es'.filter fun e => !seen'.contains e.born) = L at hleft
          have hlen := hleft.length
          have hlenL : L.size = es0.length + 1 := by simpa using hlen.symm
          have hborn : ∀ e' ∈ L.toList, e'.born < since := by
            intro e' he'
            obtain ⟨i, hi⟩ := List.getElem?_of_mem he'
            have hi' : i < L.toList.length := (List.getElem?_eq_some_iff.1 hi).1
            obtain ⟨x, hx⟩ : ∃ x, (e0 :: es0)[i]? = some x := ⟨(e0 :: es0)[i]'(by omega), List.getElem?_eq_getElem (by omega)⟩
            obtain ⟨e2, h3, h4⟩ := hleft.get i x hx
            rw [hi] at h3; cases h3
            rw [h4.born]
            exact (hpick i x hx).1
          have f1 : (L.filter fun e => decide (e.born < since)) = L := by
            apply Array.ext'
            rw [Array.toList_filter, List.filter_eq_self]
            intro e he; simpa using hborn e he
          have f2 : (L.filter fun e => decide (e.born ≥ since)) = #[] := by
            apply Array.ext'
            rw [Array.toList_filter, List.filter_eq_nil_iff]
            intro e he; have := hborn e he; simp; omega
          have hne : L.isEmpty = false := by
            rw [Array.isEmpty_eq_false_iff]
            intro h0; rw [h0] at hlenL; simp at hlenL
          obtain ⟨k, w1, hk, hw1, hch⟩ := run_choose_next (P := P) (es0.length + 1) (by omega) w
          obtain ⟨x, hx⟩ : ∃ x, (e0 :: es0)[k]? = some x := ⟨(e0 :: es0)[k]'(by simpa using hk), List.getElem?_eq_getElem (by simpa using hk)⟩
          obtain ⟨e', he1, he'⟩ := hleft.get k x hx
          rw [Array.getElem?_toList] at he1
          obtain ⟨hxb, hlo, hgood⟩ := hpick k x hx
          have hr1 : HR P φ h w1 := by
            rcases hw1 with rfl | rfl
            · exact hr
            · exact hr.drew
          have hx1 : Ext φ φ h h w w1 := by
            rcases hw1 with rfl | rfl
            · exact Ext.refl _ _ _
            · exact (Ext.refl _ _ _).drew
          have hO1 : w1.heap[pl.B]? = some (.mapIter (some pl'.B) since seen' last) := by rcases hw1 with rfl | rfl <;> exact hO
          have hh1 : w1.heap = w.heap := by rcases hw1 with rfl | rfl <;> rfl
          have hset : (setObj pl.B (.mapIter (some pl'.B) since (seen'.push e'.born) clock)).run P w1 = .ok () { w1 with heap := w1.heap.setIfInBounds pl.B (.mapIter (some pl'.B) since (seen'.push e'.born) clock) } := by
            simp [setObj, Sem.run, hO1]
          have hturn := hr1.turn hlo (o := .miter (some m) since (x.born :: seen) clock) hp ⟨_, hb, trivial⟩
            (w' := { w1 with heap := w1.heap.setIfInBounds pl.B (.mapIter (some pl'.B) since (seen'.push e'.born) clock) }) (by simp)
            (fun k hk => Array.getElem?_setIfInBounds_ne (Ne.symm hk))
            (by
              show OR P φ _ pl ((w1.heap.setIfInBounds pl.B _)[pl.B]?)
              rw [Array.getElem?_setIfInBounds_self_of_lt (by rw [hh1]; exact hBlt)]
              exact ⟨rfl, rfl, by simp [hseen, he'.born], .inr ⟨m, pl', rfl, hp', rfl⟩⟩) rfl rfl rfl (.inl trivial)
          refine ⟨_, .tuple #[.bool true, e'.key, e'.val], _, _, hgood, VR.tuple' (.cons (.bool true) (.cons he'.key (.cons he'.val .nil))), hturn.1, hx1.trans hturn.2, ?_⟩
          simp only [Instr.next, Sem.run_bind, run_getIter hO, run_getMap hO', Result.andThen_ok, hstr', hL, f1, f2]
          have hc : ((if L.isEmpty = true then #[none] else #[]) ++ (L ++ #[]).map some : Array (Option MapEntry)) = L.map some := by simp [hne]
          rw [hc]
          simp only [Bool.false_eq_true, if_false, Array.size_map, hlenL, Sem.run_bind, hch, Result.andThen_ok, Array.getElem?_map, he1, Option.map_some, hset]
          simp

theorem entryB_sound (hfl : ¬ good fl) (hr : HR P φ h w) {x x' : Value} {κ : Value → Heap → β} (hg : good (entryB fl x h κ)) (hx : VR φ x x') :
    ∃ v v', good (κ v h) ∧ VR φ v v' ∧ (Instr.entry x').run P w = .ok v' w := by
  unfold entryB at hg
  split at hg <;> try exact absurd hg hfl
  cases hx with
  | ptr hp =>
    rename_i b pl
    split at hg <;> try exact absurd hg hfl
    rename_i m since stamp seen stepped hb
    obtain ⟨m', seen', hO, hseen, h4⟩ := hr.iterAt hb hp
    rcases h4 with ⟨h5, _⟩ | ⟨b1, pl', h5, hp', rfl⟩
    · cases h5
    · cases h5
      split at hg <;> try exact absurd hg hfl
      rename_i es clock hm
      obtain ⟨es', hO', h2⟩ := hr.mapAt hm hp'
      split at hg <;> try exact absurd hg hfl
      rename_i hck; have hck := beq_t hck; subst hck
      split at hg <;> try exact absurd hg hfl
      rename_i e hf
      have hback : seen'.back? = some stamp := by
        have : seen' = (seen.reverse ++ [stamp]).toArray := Array.ext' (by simpa using hseen)
        rw [this]; simp
      have hfind : ∃ e', es'.find? (fun e => e.born == stamp) = some e' ∧ ER φ e e' := by
        rw [← Array.find?_toList]
        clear hO' hm
        generalize es'.toList = L at h2
        induction h2 with
        | nil => simp at hf
        | @cons a c l m hac _ ih =>
          simp only [List.find?_cons] at hf ⊢
          rw [beqNat] at hf
          rw [hac.born]
          split at hf
          · rename_i hq; cases hf; exact ⟨_, rfl, hac⟩
          · exact ih hf
      obtain ⟨e', hf', he'⟩ := hfind
      exact ⟨_, .tuple #[e'.key, e'.val], hg, VR.tuple' (.cons he'.key (.cons he'.val .nil)), by simp [Instr.entry, run_getIter hO, run_getMap hO', hback, hf']⟩

/-! ## copy, clear, append -/
/-- the first cells of a slice, in whatever world has that heap -/
theorem firstB_sound (hfl : ¬ good fl) (hr : HR P φ h w) {size n : Nat} {x x' : Value} {κ : List Value → β} (hg : good (firstB fl h size n x κ)) (hx : VR φ x x') (hsl : ∃ a m c, x = .slice a m c ∧ n ≤ m) :
    ∃ l l', good (κ l) ∧ F2 (VR φ) l l' ∧ l.length = n * size ∧ ∀ w1 : World, w1.heap = w.heap → (Builtin.firstCells size n x').run P w1 = .ok l'.toArray w1 := by
  obtain ⟨a, m, c, rfl, hnm⟩ := hsl
  unfold firstB at hg
  split at hg
  · rename_i h0
    have h0 : n * size = 0 := h0
    refine ⟨[], [], hg, .nil, h0.symm, fun w1 hw1 => ?_⟩
    cases hx <;> simp [Builtin.firstCells, h0, loadCells, loadCellsFrom]
  · rename_i k hk
    have hk : n * size = k + 1 := hk
    split at hg <;> try exact absurd hg hfl
    rename_i b o _ _ hxx
    cases hxx
    split at hg <;> try exact absurd hg hfl
    · rename_i nn cc e op hb
      split at hg <;> try exact absurd hg hfl
      rename_i hle; have hle := ble_t hle
      obtain ⟨l, h1, h2, h3⟩ := loadN_good hfl _ _ _ _ _ hg
      simp only [List.append_nil] at h1
      have fin : ∀ pl, φ b = some pl → ∃ l', F2 (VR φ) l l' ∧ ∀ w1 : World, w1.heap = w.heap → (loadCells ⟨pl.B, o, none⟩ (n * size)).run P w1 = .ok l'.toArray w1 := by
        intro pl hp
        obtain ⟨l', h4, h5⟩ := hr.cellsAt hb hp (l := l) (off := o) (by rw [h2]; exact hle) h3
        exact ⟨l', h4, fun w1 hw1 => by have h5 := h5 w1 hw1; rw [h2] at h5; rw [hk]; exact h5⟩
      cases hx with
      | slice hp hn hc =>
        obtain ⟨l', h4, h5⟩ := fin _ hp
        exact ⟨l, l', h1, h4, by rw [h2, hk], fun w1 hw1 => by simpa [Builtin.firstCells] using h5 w1 hw1⟩
      | sliceOpen hp hn hc =>
        obtain ⟨l', h4, h5⟩ := fin _ hp
        exact ⟨l, l', h1, h4, by rw [h2, hk], fun w1 hw1 => by simpa [Builtin.firstCells] using h5 w1 hw1⟩
      | sliceAny _ a' c =>
        have : n = 0 := by omega
        subst this; simp at hk
      | sliceEnd a' hp hc =>
        have : n = 0 := by omega
        subst this; simp at hk
    · rename_i nn cc e hb
      split at hg <;> try exact absurd hg hfl
      rename_i hle; have hle := ble_t hle
      obtain ⟨l, h1, h2, h3⟩ := loadN_good hfl _ _ _ _ _ hg
      simp only [List.append_nil] at h1
      have fin : ∀ pl, φ b = some pl → ∃ l', F2 (VR φ) l l' ∧ ∀ w1 : World, w1.heap = w.heap → (loadCells ⟨pl.B, o, none⟩ (n * size)).run P w1 = .ok l'.toArray w1 := by
        intro pl hp
        obtain ⟨l', h4, h5⟩ := hr.cellsRo hb hp (l := l) (off := o) (by rw [h2]; exact hle) h3
        exact ⟨l', h4, fun w1 hw1 => by have h5 := h5 w1 hw1; rw [h2] at h5; rw [hk]; exact h5⟩
      cases hx with
      | slice hp hn hc =>
        obtain ⟨l', h4, h5⟩ := fin _ hp
        exact ⟨l, l', h1, h4, by rw [h2, hk], fun w1 hw1 => by simpa [Builtin.firstCells] using h5 w1 hw1⟩
      | sliceOpen hp hn hc =>
        obtain ⟨l', h4, h5⟩ := fin _ hp
        exact ⟨l, l', h1, h4, by rw [h2, hk], fun w1 hw1 => by simpa [Builtin.firstCells] using h5 w1 hw1⟩
      | sliceAny _ a' c =>
        have : n = 0 := by omega
        subst this; simp at hk
      | sliceEnd a' hp hc =>
        have : n = 0 := by omega
        subst this; simp at hk

theorem copyB_sound (hfl : ¬ good fl) {e s : Nat} {ty : TypeId} {ts : Array TypeId} (ht : ts[0]? = some t) (hu : P.underlying t = some (.slice e)) (hs : szOf P e = some s) (hr : HR P φ h w)
    {d d' x x' : Value} {κ : Value → Heap → β} (hg : good (copyB fl s d x h κ)) (hd : VR φ d d') (hx : VR φ x x') :
    ∃ v h' w', good (κ v h') ∧ VR φ v v ∧ HR P φ h' w' ∧ Ext φ φ h h' w w' ∧ (Builtin.copy_ ts ty #[d', x']).run P w = .ok v w' := by
  unfold copyB at hg
  split at hg <;> try exact absurd hg hfl
  rename_i base dLen dCap
  split at hg <;> try exact absurd hg hfl
  rename_i a n c
  rw [fnK_eq] at hg
  obtain ⟨base', dCap', hd'⟩ : ∃ base' dCap', d' = .slice base' dLen dCap' := by cases hd <;> exact ⟨_, _, rfl⟩
  obtain ⟨a', c', hx'⟩ : ∃ a' c', x' = .slice a' n c' := by cases hx <;> exact ⟨_, _, rfl⟩
  split at hg
  · rename_i h0
    have hf : (Builtin.firstCells s 0 x').run P w = .ok #[] w := by rw [hx']; cases a' <;> simp [Builtin.firstCells, loadCells, loadCellsFrom]
    have h0' : Nat.min n dLen = 0 := h0
    refine ⟨_, h, w, hg, .int _ _, hr, Ext.refl _ _ _, ?_⟩
    rw [hx'] at hf
    subst hd'; subst hx'
    cases base' <;> simp [Builtin.copy_, ht, run_und hu, run_size hs, Builtin.lenOf, h0', hf, storeCells, goInt]
  · rename_i k hk
    split at hg <;> try exact absurd hg hfl
    rename_i b o
    obtain ⟨l, l', g1, g2, g3, g4⟩ := firstB_sound hfl hr hg hx ⟨_, _, _, rfl, Nat.min_le_left _ _⟩
    split at g1 <;> try exact absurd g1 hfl
    rename_i nn cc e' op hb
    obtain ⟨k1, k2, k3⟩ := storeN_good hfl _ _ _ _ _ g1
    obtain ⟨hlo, k3⟩ := setBlock_good hfl k3
    have fin : ∀ pl, φ b = some pl → base' = some ⟨pl.B, o, none⟩ → ∃ v h' w', good (κ v h') ∧ VR φ v v ∧ HR P φ h' w' ∧ Ext φ φ h h' w w' ∧ (Builtin.copy_ ts ty #[d', x']).run P w = .ok v w' := by
      intro pl hp hbe
      obtain ⟨w', j1, j2, j3⟩ := hr.storeAt hlo hb hp g2 k1 k2
      refine ⟨_, _, w', k3, .int _ _, j2, j3, ?_⟩
      have g5 := g4 w rfl
      clear g4
      rw [hx'] at g5
      subst hd'; subst hx'; subst hbe
      have g4' : (Builtin.firstCells s (Nat.min n dLen) (.slice a' n c')).run P w = .ok l'.toArray w := g5
      simp [Builtin.copy_, ht, run_und hu, run_size hs, Builtin.lenOf, g4', j1, goInt]
    cases hd with
    | slice hp hn hc => cases hd'; exact fin _ hp rfl
    | sliceOpen hp hn hc => cases hd'; exact fin _ hp rfl
    | sliceAny a1 a2 c2 => have : Nat.min n 0 = 0 := Nat.min_zero n; rw [this] at hk; cases hk
    | sliceEnd a2 hp hc => have : Nat.min n 0 = 0 := Nat.min_zero n; rw [this] at hk; cases hk

theorem clearB_slice_sound (hfl : ¬ good fl) {e : Nat} {z : List Value} {ty : TypeId} {ts : Array TypeId} (ht : ts[0]? = some t) (hu : P.underlying t = some (.slice e)) (hz : zeroOf P e = some z) (hr : HR P φ h w)
    {x x' : Value} {κ : Value → Heap → β} (hg : good (clearB fl z x h κ)) (hx : VR φ x x') :
    ∃ h' w', good (κ (.tuple #[]) h') ∧ HR P φ h' w' ∧ Ext φ φ h h' w w' ∧ (Builtin.clear_ ts ty #[x']).run P w = .ok (.tuple #[]) w' := by
  obtain ⟨v, inf, hi, hzv, hzl, hbs⟩ := info_of_zero hz
  have noth : (Builtin.clear_ ts ty #[x']).run P w = .ok (.tuple #[]) w → good (κ (.tuple #[]) h) → ∃ h' w', good (κ (.tuple #[]) h') ∧ HR P φ h' w' ∧ Ext φ φ h h' w w' ∧ (Builtin.clear_ ts ty #[x']).run P w = .ok (.tuple #[]) w' :=
    fun h1 h2 => ⟨h, w, h2, hr, Ext.refl _ _ _, h1⟩
  unfold clearB at hg
  split at hg
  · cases hx; exact noth (by simp [Builtin.clear_, ht, run_und hu]) hg
  · refine noth ?_ hg
    cases hx <;> simp [Builtin.clear_, ht, run_und hu]
  · cases hx; exact noth (by simp [Builtin.clear_, ht, run_und hu]) hg
  · rename_i b o n c hn0
    split at hg <;> try exact absurd hg hfl
    rename_i nn cc e' op hb
    obtain ⟨k1, k2, k3⟩ := storeN_good hfl _ _ _ _ _ hg
    obtain ⟨hlo, k3⟩ := setBlock_good hfl k3
    have hzz : (Builtin.zeroCells v.cells n).toList = repeatL z n := by
      unfold Builtin.zeroCells
      rw [zeros_eq v.cells n _ rfl, hzl]
    have fin : ∀ pl c', φ b = some pl → x' = .slice (some ⟨pl.B, o, none⟩) n c' → ∃ h' w', good (κ (.tuple #[]) h') ∧ HR P φ h' w' ∧ Ext φ φ h h' w w' ∧ (Builtin.clear_ ts ty #[x']).run P w = .ok (.tuple #[]) w' := by
      intro pl c' hp hxe
      obtain ⟨w', j1, j2, j3⟩ := hr.storeAt hlo hb hp (basicL_VR (φ := φ) (repeatL_basic hbs n)) k1 k2
      refine ⟨_, w', k3, j2, j3, ?_⟩
      subst hxe
      cases n with
      | zero => exact (hn0 rfl).elim
      | succ n => simp [Builtin.clear_, ht, run_und hu, run_zero hi hzv, hzz, j1]
    cases hx with
    | slice hp hn hc => exact fin _ _ hp rfl
    | sliceOpen hp hn hc => exact fin _ _ hp rfl
    | sliceAny a1 a2 c2 => exact (hn0 rfl).elim
    | sliceEnd a2 hp hc => exact (hn0 rfl).elim
  · split at hg <;> try exact absurd hg hfl
    rename_i r es clock hb
    obtain ⟨hlo, hg⟩ := setBlock_good hfl hg
    cases hx with
    | map hp =>
      rename_i pl
      obtain ⟨es', hO, h2⟩ := hr.mapAt hb hp
      obtain ⟨w', j1, j2, j3⟩ := hr.mapSet hlo (es1 := []) (es1' := #[]) (clock' := clock) hb hp .nil
      exact ⟨_, w', hg, j2, j3, by simp [Builtin.clear_, ht, run_und hu, run_getMap hO, j1]⟩
  · exact absurd hg hfl

end Go.Vai

namespace Go.Vai
open Go
variable {β : Type} {fl : β} {good : β → Prop} {P : Program} {φ : Emb} {h : Heap} {w : World} {t : TypeId}

/-- what is appended: how many elements, and the cells -/
inductive Comes (P : Program) (ts : Array TypeId) (e size : Nat) (n : Nat) (new' : List Value) (w : World) : Value → Prop where
  | sl {xt : TypeId} {xd : TypeDesc} {a : Option Addr} {c : Nat} (h1 : ts[1]? = some xt) (h2 : P.underlying xt = some xd) (h3 : isIntD xd = false)
      (h4 : ∀ w1 : World, w1.heap = w.heap → (Builtin.firstCells size n (.slice a n c)).run P w1 = .ok new'.toArray w1) : Comes P ts e size n new' w (.slice a n c)
  | mk {xt : TypeId} {k k' : IntKind} {inf : TypeInfo} {v : Value} (h1 : ts[1]? = some xt) (h2 : P.underlying xt = some (.int k')) (h3 : n ≤ 1000000) (h4 : P.info? e = some inf) (h5 : inf.zero = some v)
      (h6 : inf.bytes ≤ 10000) (h7 : Builtin.zeroCells v.cells n = new'.toArray) (h8 : n * size = 0 → new' = []) : Comes P ts e size n new' w (.int k (n : Int))

theorem HR.ofHeap (hr : HR P φ h w) {w1 : World} (hw : w1.heap = w.heap) : HR P φ h w1 :=
  ⟨fun b o pl h1 h2 => by rw [hw]; exact hr.obj b o pl h1 h2, fun b pl h1 => by rw [hw]; exact hr.dom b pl h1, hr.keys, hr.nxs, hr.inj, hr.lo⟩

theorem comeB_sound (hfl : ¬ good fl) {e size : Nat} {xt : TypeId} {xd : TypeDesc} {inf : TypeInfo} {ts : Array TypeId} {z : List Value} (hz : zOf P e = some (z, size)) (hi : P.info? e = some inf) (hb : inf.bytes ≤ 10000)
    (hxt : ts[1]? = some xt) (hxd : P.underlying xt = some xd) (hr : HR P φ h w) {x x' : Value} {κ : Nat → List Value → β}
    (hg : good (comeB fl (isIntD xd) z h size x κ)) (hx : VR φ x x') :
    ∃ n new new', good (κ n new) ∧ F2 (VR φ) new new' ∧ new.length = n * size ∧ Comes P ts e size n new' w x' := by
  obtain ⟨hz1, hz2, hz3, hz4⟩ := zOf_sound hz
  obtain ⟨v, inf', hi', hzv, hzl, hbs⟩ := info_of_zero hz1
  rw [hi] at hi'; cases hi'
  unfold comeB at hg
  split at hg
  · rename_i k n hm
    split at hg <;> try exact absurd hg hfl
    rename_i hle; have hle := ble_t hle
    cases hx
    have hzz : Builtin.zeroCells v.cells n = (repeatL z n).toArray := by
      unfold Builtin.zeroCells
      rw [zeros_eq v.cells n _ rfl, hzl]
    obtain ⟨k', rfl⟩ : ∃ k', xd = .int k' := by cases xd <;> first | exact ⟨_, rfl⟩ | cases hm
    refine ⟨n, _, _, hg, basicL_VR (repeatL_basic hbs n), by rw [repeatL_length, hz3], .mk hxt hxd hle hi hzv hb hzz ?_⟩
    intro h0
    have hn0 : n = 0 := by rcases Nat.mul_eq_zero.1 h0 with h | h <;> omega
    subst hn0
    rfl
  · rename_i a n c hm
    obtain ⟨l, l', g1, g2, g3, g4⟩ := firstB_sound hfl hr hg hx ⟨_, _, _, rfl, Nat.le_refl _⟩
    obtain ⟨a', c', rfl⟩ : ∃ a' c', x' = .slice a' n c' := by cases hx <;> exact ⟨_, _, rfl⟩
    exact ⟨n, l, l', g1, g2, g3, .sl hxt hxd hm g4⟩
  · exact absurd hg hfl

theorem run_append_at {e size n sLen sCap : Nat} {ty : TypeId} {ts : Array TypeId} {base : Option Addr} {x' : Value} {new' : List Value} (ht : ts[0]? = some t) (hu : P.underlying t = some (.slice e)) (hs : szOf P e = some size)
    (hc : Comes P ts e size n new' w x') (hle : sLen + n ≤ sCap) {w' : World} (hst : ∀ a, base = some a → (storeCells (a.add (sLen * size)) new').run P w = .ok () w') (hno : base = none → w' = w) :
    (Builtin.append_ ts ty #[.slice base sLen sCap, x']).run P w = .ok (.slice base (sLen + n) sCap) w' := by
  cases hc with
  | @sl xt xd a c h1 h2 h3 h4 =>
    have h4 := h4 w rfl
    have key : ∀ d, P.underlying xt = some d → isIntD d = false → (Builtin.append_ ts ty #[.slice base sLen sCap, .slice a n c]).run P w = .ok (.slice base (sLen + n) sCap) w' := by
      intro d hd hdf
      unfold Builtin.append_
      cases d <;> first
        | (cases hdf; done)
        | (simp only [ht, h1, List.getElem?_toArray, List.getElem?_cons_zero, List.getElem?_cons_succ, Sem.run_bind, run_und hu, run_und hd, Result.andThen_ok, run_size hs, Sem.run_pure, Bool.false_eq_true, if_false,
            Builtin.lenOf, hle, Bool.not_false, if_true, h4]
           cases base with
           | none => rw [hno rfl]; simp only [Sem.run_pure]
           | some b => simp only [Sem.run_bind, hst b rfl, Result.andThen_ok, Sem.run_pure])
    exact key xd h2 h3
  | @mk xt k k' inf v h1 h2 h3 h4 h5 h6 h7 h8 =>
    have w1 : IntKind.i64.wrap (n : Int) = n := IntWalk.i64_in _ ⟨by omega, by omega⟩
    have c1 : ¬ ((n : Int) < 0) := by omega
    have c2 : ¬ ((n : Int) * (inf.bytes : Int) > 2 ^ 48) := by
      have : n * inf.bytes ≤ 1000000 * 10000 := Nat.mul_le_mul h3 h6
      have h2 : (n : Int) * (inf.bytes : Int) = ((n * inf.bytes : Nat) : Int) := by simp
      rw [h2]; omega
    have hA : (asInt (.int k (n : Int))).run P w = .ok (n : Int) w := by simp [asInt, asIntOf]
    have hnew : (if n * size = 0 then pure #[] else do pure (Builtin.zeroCells (← zeroValue e).cells n) : Sem (Array Value)).run P w = .ok new'.toArray w := by
      by_cases h0 : n * size = 0
      · simp only [h0, if_true, h8 h0]; rfl
      · simp [h0, run_zero h4 h5, h7]
    simp only [Sem.run_ite, Sem.run_bind, Sem.run_pure] at hnew
    unfold Builtin.append_
    simp only [ht, h1, List.getElem?_toArray, List.getElem?_cons_zero, List.getElem?_cons_succ, Sem.run_bind, run_und hu, run_und h2, Result.andThen_ok, run_size hs, Sem.run_pure, if_true, hA, w1, c1, if_false,
      run_info h4, c2, Int.toNat_natCast, hle, Bool.not_true, Bool.false_eq_true, Sem.run_ite, hnew]
    cases base with
    | none => rw [hno rfl]; simp
    | some b => simp [hst b rfl]

theorem cut_ge {need old : Nat} {e : TypeId} (tp : Nat) : need ≤ (Question.appendCap need old e).cut tp := by simp [Question.cut]

set_option maxHeartbeats 1000000 in
theorem run_append_fresh {e size n sLen sCap : Nat} {ty : TypeId} {ts : Array TypeId} {base : Option Addr} {x' v : Value} {new' old' : List Value} {inf : TypeInfo} (ht : ts[0]? = some t) (hu : P.underlying t = some (.slice e)) (hs : szOf P e = some size)
    (hi : P.info? e = some inf) (hz : inf.zero = some v) (hb : inf.bytes ≤ 10000) (hc : Comes P ts e size n new' w x') (hlt : sCap < sLen + n) (hneed : sLen + n ≤ 1000000000)
    (hold : ∀ w1 : World, w1.heap = w.heap → (Builtin.firstCells size sLen (.slice base sLen sCap)).run P w1 = .ok old'.toArray w1) :
    ∃ newCap rest, sLen + n ≤ newCap ∧ rest.length = (newCap - (sLen + n)) * v.cells.size ∧ (Builtin.append_ ts ty #[.slice base sLen sCap, x']).run P w =
      .ok (.slice (some ⟨w.heap.size, 0, none⟩) (sLen + n) newCap) (w.drew.alloc (.cells (old' ++ new' ++ rest).toArray e (0, 0))) := by
  have hold := hold w.drew rfl
  let newCap := (Question.appendCap (sLen + n) sCap e).cut (w.tape w.drawn (.appendCap (sLen + n) sCap e))
  refine ⟨newCap, (Builtin.zeroCells v.cells (newCap - (sLen + n))).toList, cut_ge _, by simp [size_zeroCells], ?_⟩
  have hn1 : ¬ (sLen + n ≤ sCap) := by omega
  have hn0 : ¬ (((sLen + n : Nat) : Int) > IntKind.i64.max) := by rw [IntKind.max_i64]; omega
  have hn3 : ¬ (Builtin.nextslicecap (sLen + n) sCap * inf.bytes > 2 ^ 48) := by
    have h5 := nextslicecap_le hlt
    have : Builtin.nextslicecap (sLen + n) sCap * inf.bytes ≤ (2 * 1000000000) * 10000 := Nat.mul_le_mul (by omega) hb
    omega
  have harr : ∀ Z : Array Value, old'.toArray ++ new'.toArray ++ Z = (old' ++ new' ++ Z.toList).toArray := fun Z => Array.ext' (by simp)
  have hz1 : ∀ w1 : World, (zeroValue e).run P w1 = .ok v w1 := fun w1 => run_zero hi hz
  have hi1 : ∀ w1 : World, (typeInfo e).run P w1 = .ok inf w1 := fun w1 => run_info hi
  cases hc with
  | @sl xt xd a c h1 h2 h3 h4 =>
    have h4 := h4 w.drew rfl
    have hxf : isIntD xd = false := h3
    have key : ∀ d, P.underlying xt = some d → isIntD d = false → (Builtin.append_ ts ty #[.slice base sLen sCap, .slice a n c]).run P w =
        .ok (.slice (some ⟨w.heap.size, 0, none⟩) (sLen + n) newCap) (w.drew.alloc (.cells (old' ++ new' ++ (Builtin.zeroCells v.cells (newCap - (sLen + n))).toList).toArray e (0, 0))) := by
      intro d hd hdf
      unfold Builtin.append_
      cases d <;> first
        | (cases hdf; done)
        | (simp only [ht, h1, List.getElem?_toArray, List.getElem?_cons_zero, List.getElem?_cons_succ, Sem.run_bind, run_und hu, run_und hd, Result.andThen_ok, run_size hs, Sem.run_pure, Bool.false_eq_true, if_false,
            Builtin.lenOf, hn1, hi1, hn0, false_and, hn3, run_choose, Question.forced, World.drew_eq, run_askRoom, hold, Bool.not_false, if_true, h4, hz1, newRow, run_newObj]
           rw [harr]; rfl)
    exact key xd h2 hxf
  | @mk xt k k' inf' v' h1 h2 h3 h4 h5 h6 h7 h8 =>
    rw [hi] at h4; cases h4
    rw [hz] at h5; cases h5
    have w1 : IntKind.i64.wrap (n : Int) = n := IntWalk.i64_in _ ⟨by omega, by omega⟩
    have c1 : ¬ ((n : Int) < 0) := by omega
    have c2 : ¬ ((n : Int) * (inf.bytes : Int) > 2 ^ 48) := by
      have : n * inf.bytes ≤ 1000000 * 10000 := Nat.mul_le_mul h3 h6
      have h2 : (n : Int) * (inf.bytes : Int) = ((n * inf.bytes : Nat) : Int) := by simp
      rw [h2]; omega
    have hA : (asInt (.int k (n : Int))).run P w = .ok (n : Int) w := by simp [asInt, asIntOf]
    have hnew : (if n * size = 0 then pure #[] else do pure (Builtin.zeroCells (← zeroValue e).cells n) : Sem (Array Value)).run P w.drew = .ok new'.toArray w.drew := by
      by_cases h0 : n * size = 0
      · simp only [h0, if_true, h8 h0]; rfl
      · simp [h0, hz1, h7]
    simp only [Sem.run_ite, Sem.run_bind, Sem.run_pure] at hnew
    simp only [hz1, Result.andThen_ok] at hnew
    unfold Builtin.append_
    simp only [ht, h1, List.getElem?_toArray, List.getElem?_cons_zero, List.getElem?_cons_succ, Sem.run_bind, run_und hu, run_und h2, Result.andThen_ok, run_size hs, Sem.run_pure, if_true, hA, w1, c1, if_false,
      hi1, c2, Int.toNat_natCast, hn1, hn0, false_and, hn3, run_choose, Question.forced, World.drew_eq, run_askRoom, hold, Bool.not_true, Bool.false_eq_true, Sem.run_ite, hnew, hz1, newRow, run_newObj]
    rw [harr]; rfl


theorem OR_open (w : World) {old old' new new' rest : List Value} {e size newCap sLen n : Nat} (hs : szOf P e = some size) (hz : 0 < size) (h1 : F2 (VR φ) old old') (h2 : F2 (VR φ) new new') (l1 : old.length = sLen * size) (l2 : new.length = n * size)
    (hle : sLen + n ≤ newCap) (hr : rest.length = (newCap - (sLen + n)) * size) (hlen : (old ++ new).length ≤ 1000000000000) :
    OR P φ (.cells (old ++ new).length (lay (old ++ new) .nil 0) e true) ⟨w.heap.size, newCap * size, size⟩ (some (.cells (old' ++ new' ++ rest).toArray e (0, 0))) := by
  refine OR_new (h1.append h2) hlen e _ rest true fun _ => ⟨?_, hs, hz⟩
  simp only [List.length_append, hr, ← h1.length, ← h2.length, l1, l2]
  rw [← Nat.add_mul, ← Nat.add_mul]
  congr 1
  omega

theorem firstB_cells (hfl : ¬ good fl) {b o n m c nn e size : Nat} {cc : T Value} {op : Bool} {κ : List Value → β} (hb : h.bl.get b = some (.cells nn cc e op)) (hg : good (firstB fl h size n (.slice (some ⟨b, o, none⟩) m c) κ)) :
    ∃ l, good (κ l) ∧ l.length = n * size ∧ (l ≠ [] → o + l.length ≤ nn) ∧ ∀ j v, l[j]? = some v → cc.get (o + j) = some v := by
  unfold firstB at hg
  split at hg
  · rename_i h0
    have h0 : n * size = 0 := h0
    exact ⟨[], hg, h0.symm, fun hh => absurd rfl hh, fun j v e => by simp at e⟩
  · rename_i k hk
    have hk : n * size = k + 1 := hk
    simp only [hb] at hg
    split at hg <;> try exact absurd hg hfl
    rename_i hle; have hle := ble_t hle
    obtain ⟨l, h1, h2, h3⟩ := loadN_good hfl _ _ _ _ _ hg
    simp only [List.append_nil] at h1
    exact ⟨l, h1, by rw [h2, hk], fun _ => by rw [h2]; exact hle, h3⟩

/-- an open block grown in place: the old name dies, a new one takes its place -/
theorem HR.regrow (hr : HR P φ h w) {b nn e : Nat} (hlo : h.lo ≤ b) {c : T Value} {op : Bool} {pl : Pl} {ob : AObj} {w' : World} (hb : h.bl.get b = some (.cells nn c e op)) (hp : φ b = some pl) (hn : h.nx ≤ h.nx)
    (hsz : w'.heap.size = w.heap.size) (hoth : ∀ k, k ≠ pl.B → w'.heap[k]? = w.heap[k]?) (ho : OR P φ ob pl w'.heap[pl.B]?) (hd : OR P φ (.dead nn e) pl w'.heap[pl.B]?)
    (ht : w'.tape = w.tape) (hos : w'.os = w.os) (hout : w'.output = w.output) (hlv : ob.live) (hdr : w.drawn ≤ w'.drawn := by exact Nat.le_refl _) :
    HR P (addPl φ h.nx pl) ⟨h.nx + 1, (h.bl.upd b (.dead nn e)).upd h.nx ob, h.lo⟩ w' ∧ Ext φ (addPl φ h.nx pl) h ⟨h.nx + 1, (h.bl.upd b (.dead nn e)).upd h.nx ob, h.lo⟩ w w' := by
  obtain ⟨hr1, hx1⟩ := hr.turn hlo (o := .dead nn e) hp ⟨_, hb, trivial⟩ hsz hoth hd ht hos hout (.inr fun _ => UF_of_OR ho hlv) hdr
  have hnone : φ h.nx = none := by
    cases hq : φ h.nx with
    | none => rfl
    | some pl => have := (hr.dom _ _ hq).1; omega
  have hs : Small h.nx := by unfold Small; omega
  have hbn := (hr.dom b pl hp).1
  have get_ne : ∀ x, x < h.nx → ((h.bl.upd b (.dead nn e)).upd h.nx ob).get x = (h.bl.upd b (.dead nn e)).get x := fun x hx => T.get_upd_ne _ _ hs (by unfold Small; omega) (by omega)
  have hsub := addPl_sub (pl := pl) hnone
  -- nobody else lives there
  have alone : ∀ x o px, (h.bl.upd b (.dead nn e)).get x = some o → o.live → φ x = some px → px.B ≠ pl.B := by
    intro x o px hx hl hpx hB
    have hxn := (hr.dom x px hpx).1
    rw [T.get_upd _ _ (by unfold Small; omega) (by unfold Small; omega)] at hx
    split at hx
    · cases hx; exact hl
    · rename_i hne
      exact hne (hr.inj x b o _ px pl hx hb hl trivial hpx hp hB).symm
  constructor
  · refine ⟨?_, ?_, ?_, ?_, ?_, Nat.le_succ_of_le hr.lo⟩
    · intro x o px hx hpx
      unfold addPl at hpx
      split at hpx
      · rename_i he; subst he; cases hpx
        rw [T.get_upd_same] at hx; cases hx
        exact ho.mono hsub
      · have hxn := (hr.dom x px hpx).1
        exact (hr1.obj x o px ((get_ne x hxn) ▸ hx) hpx).mono hsub
    · intro x px hpx
      unfold addPl at hpx
      split at hpx
      · rename_i he; subst he; cases hpx; exact ⟨Nat.lt_succ_self _, by rw [hsz]; exact (hr.dom b pl hp).2⟩
      · have := hr1.dom x px hpx; exact ⟨Nat.lt_succ_of_lt this.1, this.2⟩
    · intro x o hsx hx
      show x < h.nx + 1
      rw [T.get_upd _ _ hs hsx] at hx
      split at hx
      · omega
      · have := hr1.keys x o hsx hx; exact Nat.lt_succ_of_lt this
    · show h.nx + 1 < h.nx + 1 + 1; omega
    · intro x x' o1 o2 p1 p2 g1 g2 l1 l2 e1 e2 eB
      unfold addPl at e1 e2
      split at e1 <;> split at e2
      · omega
      · rename_i q1 q2; cases e1
        have hxn := (hr.dom x' p2 e2).1
        exact absurd eB.symm (alone x' o2 p2 ((get_ne x' hxn) ▸ g2) l2 e2)
      · rename_i q1 q2; cases e2
        have hxn := (hr.dom x p1 e1).1
        exact absurd eB (alone x o1 p1 ((get_ne x hxn) ▸ g1) l1 e1)
      · have n1 := (hr.dom x p1 e1).1
        have n2 := (hr.dom x' p2 e2).1
        exact hr1.inj x x' o1 o2 p1 p2 ((get_ne x n1) ▸ g1) ((get_ne x' n2) ▸ g2) l1 l2 e1 e2 eB
  · refine ⟨hsub, ?_, Nat.le_succ _, hx1.size, hx1.frC, ?_, ht, hos, hout, hx1.fz, rfl, fun x hx => (get_ne x (Nat.lt_of_lt_of_le hx hr.lo)).trans (hx1.frL x hx), hx1.frW, hdr⟩
    · intro x px e0 e1
      unfold addPl at e1
      split at e1
      · rename_i he; subst he; cases e1; exact ⟨Nat.le_refl _, .inr ⟨b, pl, hp, rfl⟩⟩
      · rw [e0] at e1; cases e1
    · intro x hx hpx
      show ((h.bl.upd b (.dead nn e)).upd h.nx ob).get x = _
      rw [get_ne x hx]
      exact hx1.frA x hx hpx

theorem ones_VR {l l' : List Value} (g : F2 (VR φ) l l') (h : l.all oneC = true) : ∀ v' ∈ l', v'.oneCell' = true := by
  induction g with
  | nil => intro v' hv'; cases hv'
  | cons hv _ ih =>
    simp only [List.all_cons, Bool.and_eq_true] at h
    intro v' hv'
    simp only [List.mem_cons] at hv'
    rcases hv' with rfl | hv'
    · exact oneC_VR h.1 hv
    · exact ih h.2 v' hv'

set_option maxHeartbeats 2000000 in
theorem appendB_sound (hfl : ¬ good fl) {both : β → β → β} (hboth : ∀ x y, good (both x y) → good x ∧ good y) {e size : Nat} {ty xt : TypeId} {xd : TypeDesc} {inf : TypeInfo} {ts : Array TypeId} {z : List Value} (ht : ts[0]? = some t) (hu : P.underlying t = some (.slice e))
    (hz : zOf P e = some (z, size)) (hi : P.info? e = some inf) (hby : inf.bytes ≤ 10000) (hxt : ts[1]? = some xt) (hxd : P.underlying xt = some xd) (hr : HR P φ h w) {s s' x x' : Value} {κ : Value → Heap → β}
    (hg : good (appendB fl both e size z (isIntD xd) s x h κ)) (hsv : VR φ s s') (hx : VR φ x x') :
    ∃ φ' v v' h' w', good (κ v h') ∧ VR φ' v v' ∧ HR P φ' h' w' ∧ Ext φ φ' h h' w w' ∧ (Builtin.append_ ts ty #[s', x']).run P w = .ok v' w' := by
  obtain ⟨hz1, hz2, hz3, hz4⟩ := zOf_sound hz
  obtain ⟨v, inf', hi', hzv, hzl, hbs⟩ := info_of_zero hz1
  rw [hi] at hi'; cases hi'
  have hvs : v.cells.size = size := by rw [← hz3, hzl]; simp
  unfold appendB at hg
  split at hg <;> try exact absurd hg hfl
  rename_i base sLen sCap
  obtain ⟨n, new, new', g1, g2, g3, g4⟩ := comeB_sound hfl hz hi hby hxt hxd hr hg hx
  have hnlen := g2.length
  obtain ⟨base', sCap', hs'⟩ : ∃ base' sCap', s' = .slice base' sLen sCap' := by cases hsv <;> exact ⟨_, _, rfl⟩
  have hle' : sLen ≤ sCap' := by subst hs'; cases hsv <;> first | assumption | omega
  -- a fresh block
  have fresh : ∀ {h1 : Heap} {w1 : World} {old old' : List Value} {κ1 : Value → Heap → β}, HR P φ h1 w.drew → Ext φ φ h h1 w w.drew → sLen + n ≤ 1000000000 → sCap' < sLen + n →
      F2 (VR φ) old old' → old.length = sLen * size → (∀ w1 : World, w1.heap = w.heap → (Builtin.firstCells size sLen s').run P w1 = .ok old'.toArray w1) →
      good (newCells fl (old ++ new) e true h1 fun b h => κ (.slice (some ⟨b, 0, none⟩) (sLen + n) openCap) h) →
      ∃ φ' v v' h' w', good (κ v h') ∧ VR φ' v v' ∧ HR P φ' h' w' ∧ Ext φ φ' h h' w w' ∧ (Builtin.append_ ts ty #[s', x']).run P w = .ok v' w' := by
    intro h1 w1 old old' κ1 hr1 hx1 hneed hlt ho1 ho2 ho3 hgood
    unfold newCells at hgood
    obtain ⟨k1, k2⟩ := cellsK_good hfl hgood
    obtain ⟨k3, k4⟩ := newBlock_good hfl k2
    rw [hs'] at ho3
    obtain ⟨newCap, rest, j1, j2, j3⟩ := run_append_fresh (ty := ty) ht hu hz2 hi hzv hby g4 hlt hneed ho3
    rw [hvs] at j2
    have hOR := OR_open (P := P) (φ := φ) w.drew (newCap := newCap) hz2 hz4 ho1 g2 ho2 g3 j1 j2 k1
    obtain ⟨m1, m2⟩ := hr1.fresh k3 (newCap * size) size hOR trivial
    refine ⟨_, _, _, _, _, k4, .sliceOpen (addPl_same _ _ _) j1 (by simp), m1, hx1.trans m2, by rw [hs']; exact j3⟩
  split at g1
  · -- nothing comes
    refine ⟨φ, _, s', h, w, g1, hsv, hr, Ext.refl _ _ _, ?_⟩
    have hn0 : new = [] := List.eq_nil_of_length_eq_zero (by rw [g3]; omega)
    subst hn0
    cases g2
    rw [hs']
    exact run_append_at ht hu hz2 g4 (by omega) (w' := w) (fun a _ => by simp [storeCells]) (fun _ => rfl)
  · rename_i n
    rw [fnK_eq] at g1
    split at g1 <;> try exact absurd g1 hfl
    rename_i hneed; have hneed := ble_t hneed
    have hneed : sLen + (n + 1) ≤ 1000000000 := hneed
    split at g1
    · -- the nil slice
      split at g1 <;> try exact absurd g1 hfl
      rename_i hc0 hl0
      have hc0 := beq_t hc0; have hl0 := beq_t hl0
      subst hc0; subst hl0
      cases hsv with
      | sliceNil _ =>
        cases hs'
        refine fresh (w1 := w) (κ1 := κ) (old := []) (old' := []) hr.drew (Ext.refl _ _ _).drew hneed (by omega) .nil (by simp) (fun w1 _ => by simp [Builtin.firstCells]) (by simpa using g1)
    · rename_i b o
      split at g1 <;> try exact absurd g1 hfl
      rename_i hany; have hany := beq_f hany
      split at g1
      · -- emptied at the known end: in place, or a new block
        rename_i hend; have hend := beq_t hend; subst hend
        obtain ⟨pl, a', hp, rfl, rfl, hcap⟩ : ∃ pl a', φ b = some pl ∧ base' = some a' ∧ sLen = 0 ∧ (sCap' = 0 ∨ a' = ⟨pl.B, o, none⟩ ∧ sCap' * pl.e + o = pl.sz) := by
          subst hs'
          cases hsv with
          | slice hp hn hc => exact absurd hc (by unfold endCap openCap; omega)
          | sliceEnd a' hp hc => exact ⟨_, _, hp, rfl, rfl, hc⟩
        split at g1 <;> try exact absurd g1 hfl
        rename_i nn cc e' hb h00
        split at g1 <;> try exact absurd g1 hfl
        rename_i hcond
        simp only [Bool.and_eq_true] at hcond
        obtain ⟨⟨hee, hoo⟩, hones⟩ := hcond
        have hee := beq_t hee; subst hee
        have hoo := beq_t hoo; subst hoo
        obtain ⟨ga, gb⟩ := hboth _ _ g1
        obtain ⟨C, hC, hn1, hn2, hopn, hcell⟩ := hr.rowAt hb hp
        obtain ⟨o1, o2, o3⟩ := hopn rfl
        have hpe : pl.e = size := by rw [hz2] at o2; exact (Option.some.inj o2).symm
        by_cases hroom : 0 + (n + 1) ≤ sCap'
        · obtain ⟨rfl, hcp⟩ : a' = ⟨pl.B, o, none⟩ ∧ sCap' * pl.e + o = pl.sz := by
            rcases hcap with h0 | h1
            · omega
            · exact h1
          obtain ⟨old, k1, k3, k6⟩ := loadN_good hfl _ _ _ _ _ ga
          simp only [List.append_nil] at k1
          obtain ⟨hlo, k1⟩ := setBlock_good hfl k1
          unfold newCells at k1
          obtain ⟨m1, m2⟩ := cellsK_good hfl k1
          obtain ⟨m3, m4⟩ := newBlock_good hfl m2
          have hone : ∀ v' ∈ new', v'.oneCell' = true := ones_VR g2 hones
          have hfits : o + new'.length ≤ C.size := by
            have h6 := Nat.mul_le_mul_right size hroom
            have h7 : new'.length ≤ sCap' * size := by rw [← hnlen, g3]; simpa using h6
            rw [hpe] at hcp
            omega
          have hone : ∀ v' ∈ new', v'.oneCell' = true := ones_VR g2 hones
          have hrun := run_storeCells_at P pl.B o e new' 0 C w hC (by simpa using hfits) hone
          simp only [Nat.add_zero] at hrun
          have hrow := setRow_heap w pl.B C (C.toList.take o ++ new' ++ C.toList.drop (o + new'.length)).toArray e _ hC
          have hOR : OR P φ (.cells (old ++ new).length (lay (old ++ new) .nil 0) e true) pl (some (.cells (C.toList.take o ++ new' ++ C.toList.drop (o + new'.length)).toArray e (0, 0))) := by
            refine ⟨rfl, rfl, ?_, by omega, fun _ => ⟨?_, o2, o3⟩, ?_⟩
            · simp only [List.length_append, k3, List.size_toArray, List.length_take, List.length_drop, Array.length_toList, ← hnlen]
              omega
            · simp only [List.length_append, List.size_toArray, List.length_take, List.length_drop, Array.length_toList]
              omega
            · intro i v hget hi
              have hi2 : i < o + new.length := by simpa [List.length_append, k3] using hi
              rw [get_lay _ .nil 0 (by omega) i (by unfold Small; omega), if_pos (by omega)] at hget
              simp only [Nat.sub_zero] at hget
              simp only [List.getElem?_toArray, List.append_assoc]
              rcases Nat.lt_or_ge i o with hlt | hge
              · rw [List.getElem?_append_left (by omega)] at hget
                have hgc := k6 i v hget
                rw [Nat.zero_add] at hgc
                obtain ⟨v', e1, e2⟩ := hcell i v hgc hlt
                refine ⟨v', ?_, e2⟩
                rw [List.getElem?_append_left (by simp; omega), List.getElem?_take_of_lt hlt]
                simpa using e1
              · rw [List.getElem?_append_right (by omega), k3] at hget
                obtain ⟨v', e1, e2⟩ := g2.get _ v hget
                refine ⟨v', ?_, e2⟩
                have htl : (C.toList.take o).length = o := by
                  rw [List.length_take, Array.length_toList]; exact Nat.min_eq_left (by omega)
                have hin : i - o < new'.length := by rw [← hnlen]; omega
                rw [List.getElem?_append_right (by rw [htl]; exact hge), htl, List.getElem?_append_left hin]
                exact e1
          obtain ⟨q1, q2⟩ := hr.regrow hlo (ob := .cells (old ++ new).length (lay (old ++ new) .nil 0) e true) (w' := w.setRow pl.B (C.toList.take o ++ new' ++ C.toList.drop (o + new'.length)).toArray) hb hp m3
            (setRow_size _ _ _) (fun k hk => setRow_other _ _ _ _ hk) (by rw [hrow]; exact hOR) (by rw [hrow]; exact ⟨by omega, hn2, o2, o3⟩) rfl rfl rfl (by trivial)
          refine ⟨_, _, .slice (some ⟨pl.B, o, none⟩) (0 + (n + 1)) sCap', _, _, m4, .sliceOpen (addPl_same _ _ _) hroom hcp, q1, q2, ?_⟩
          rw [hs']
          exact run_append_at ht hu hz2 g4 hroom (fun a ha => by cases ha; rw [addr_add, Nat.zero_mul, Nat.add_zero]; exact hrun) (fun hh => by cases hh)
        · refine fresh (w1 := w) (κ1 := κ) (old := []) (old' := []) hr.drew (Ext.refl _ _ _).drew hneed (by omega) .nil (by simp) (fun w1 _ => by rw [hs']; simp [Builtin.firstCells, loadCells, loadCellsFrom]) (by simpa using gb)
      rename_i hend; have hend := beq_f hend
      split at g1
      · -- open
        rename_i hop; have hop := beq_t hop; subst hop
        obtain ⟨pl, hp, hcap, rfl⟩ : ∃ pl, φ b = some pl ∧ sCap' * pl.e + o = pl.sz ∧ base' = some ⟨pl.B, o, none⟩ := by
          subst hs'
          cases hsv with
          | slice hp hn hc => exact absurd hc (Nat.lt_irrefl _)
          | sliceOpen hp hn hc => exact ⟨_, hp, hc, rfl⟩
        split at g1 <;> try exact absurd g1 hfl
        rename_i nn cc e' hb
        obtain ⟨C, hC, hn1, hn2, hopn, hcell⟩ := hr.rowAt hb hp
        obtain ⟨o1, o2, o3⟩ := hopn rfl
        split at g1 <;> try exact absurd g1 hfl
        · -- in place
          rename_i hee hfit
          have hee := beq_t hee; subst hee
          have hfit : o + (sLen + (n + 1)) * size ≤ nn := ble_t hfit
          have hpe : pl.e = size := by rw [hz2] at o2; exact (Option.some.inj o2).symm
          have hroom : sLen + (n + 1) ≤ sCap' := by
            rw [hpe] at hcap
            have h1 : (sLen + (n + 1)) * size ≤ sCap' * size := by omega
            exact Nat.le_of_mul_le_mul_right h1 hz4
          obtain ⟨k1, k2, k3⟩ := storeN_good hfl _ _ _ _ _ g1
          obtain ⟨hlo, k3⟩ := setBlock_good hfl k3
          obtain ⟨w', j1, j2, j3⟩ := hr.storeAt hlo hb hp g2 k1 k2
          refine ⟨φ, _, .slice (some ⟨pl.B, o, none⟩) (sLen + (n + 1)) sCap', _, w', k3, .sliceOpen hp hroom hcap, j2, j3, ?_⟩
          rw [hs']
          exact run_append_at ht hu hz2 g4 hroom (fun a ha => by cases ha; rw [addr_add]; exact j1) (fun hh => by cases hh)
        · -- past what is known: in place, or a new block
          rename_i hee hfit
          have hee := beq_t hee; subst hee
          have hfit := ble_f hfit
          split at g1 <;> try exact absurd g1 hfl
          rename_i ho0
          simp only [Bool.and_eq_true] at ho0
          obtain ⟨ho0, hones⟩ := ho0
          have ho0 := beq_t ho0; subst ho0
          have hpe : pl.e = size := by rw [hz2] at o2; exact (Option.some.inj o2).symm
          have hdead := fun hlo : h.lo ≤ b => hr.turn hlo (w' := w) (o := .dead nn e) hp ⟨_, hb, trivial⟩ rfl (fun _ _ => rfl) (by rw [hC]; exact ⟨by omega, hn2, o2, o3⟩) rfl rfl rfl (.inr id)
          by_cases hroom : sLen + (n + 1) ≤ sCap'
          · obtain ⟨old, k1, k3, k5, k6⟩ := firstB_cells hfl hb g1
            obtain ⟨hlo, k1⟩ := setBlock_good hfl k1
            unfold newCells at k1
            obtain ⟨m1, m2⟩ := cellsK_good hfl k1
            obtain ⟨m3, m4⟩ := newBlock_good hfl m2
            have hone : ∀ v' ∈ new', v'.oneCell' = true := ones_VR g2 hones
            have hfits : sLen * size + new'.length ≤ C.size := by
              rw [o1, ← hcap, hpe, ← hnlen, g3, ← Nat.add_mul]
              exact Nat.le_trans (Nat.mul_le_mul_right _ hroom) (Nat.le_add_right _ _)
            have hrun := run_storeCells_at P pl.B (sLen * size) e new' 0 C w hC (by simpa using hfits) hone
            simp only [Nat.add_zero] at hrun
            have hrow := setRow_heap w pl.B C (C.toList.take (sLen * size) ++ new' ++ C.toList.drop (sLen * size + new'.length)).toArray e _ hC
            have hOR : OR P φ (.cells (old ++ new).length (lay (old ++ new) .nil 0) e true) pl (some (.cells (C.toList.take (sLen * size) ++ new' ++ C.toList.drop (sLen * size + new'.length)).toArray e (0, 0))) := by
              refine ⟨rfl, rfl, ?_, by omega, fun _ => ⟨?_, o2, o3⟩, ?_⟩
              · simp only [List.length_append, k3, List.size_toArray, List.length_take, List.length_drop, Array.length_toList, ← hnlen]
                omega
              · simp only [List.length_append, List.size_toArray, List.length_take, List.length_drop, Array.length_toList]
                omega
              · intro i v hget hi
                have hi2 : i < sLen * size + new.length := by simpa [List.length_append, k3] using hi
                rw [get_lay _ .nil 0 (by omega) i (by unfold Small; omega), if_pos (by omega)] at hget
                simp only [Nat.sub_zero] at hget
                simp only [List.getElem?_toArray, List.append_assoc]
                rcases Nat.lt_or_ge i (sLen * size) with hlt | hge
                · rw [List.getElem?_append_left (by omega)] at hget
                  have hgc := k6 i v hget
                  rw [Nat.zero_add] at hgc
                  obtain ⟨v', e1, e2⟩ := hcell i v hgc (by have := k5 (by intro hnil; rw [hnil] at k3; simp at k3; omega); omega)
                  refine ⟨v', ?_, e2⟩
                  rw [List.getElem?_append_left (by simp; omega), List.getElem?_take_of_lt hlt]
                  simpa using e1
                · rw [List.getElem?_append_right (by omega), k3] at hget
                  obtain ⟨v', e1, e2⟩ := g2.get _ v hget
                  refine ⟨v', ?_, e2⟩
                  have htl : (C.toList.take (sLen * size)).length = sLen * size := by
                    rw [List.length_take, Array.length_toList]; exact Nat.min_eq_left (by omega)
                  have hin : i - sLen * size < new'.length := by rw [← hnlen]; omega
                  rw [List.getElem?_append_right (by rw [htl]; exact hge), htl, List.getElem?_append_left hin]
                  exact e1
            obtain ⟨q1, q2⟩ := hr.regrow hlo (ob := .cells (old ++ new).length (lay (old ++ new) .nil 0) e true) (w' := w.setRow pl.B (C.toList.take (sLen * size) ++ new' ++ C.toList.drop (sLen * size + new'.length)).toArray) hb hp m3
              (setRow_size _ _ _) (fun k hk => setRow_other _ _ _ _ hk) (by rw [hrow]; exact hOR) (by rw [hrow]; exact ⟨by omega, hn2, o2, o3⟩) rfl rfl rfl (by trivial)
            refine ⟨_, _, .slice (some ⟨pl.B, 0, none⟩) (sLen + (n + 1)) sCap', _, _, m4, .sliceOpen (addPl_same _ _ _) hroom hcap, q1, q2, ?_⟩
            rw [hs']
            exact run_append_at ht hu hz2 g4 hroom (fun a ha => by cases ha; rw [addr_add, Nat.zero_add]; exact hrun) (fun hh => by cases hh)
          · obtain ⟨old, old', k1, k2, k3, k4⟩ := firstB_sound hfl hr g1 hsv ⟨_, _, _, rfl, Nat.le_refl _⟩
            obtain ⟨hlo, k1⟩ := setBlock_good hfl k1
            exact fresh (w1 := w) (κ1 := κ) (hdead hlo).1.drew (hdead hlo).2.drew hneed (by omega) k2 k3 k4 k1
      · -- exact
        rename_i hop; have hop := beq_f hop
        obtain ⟨pl, hp, rfl, rfl, hcl0⟩ : ∃ pl, φ b = some pl ∧ sCap' = sCap ∧ base' = some ⟨pl.B, o, none⟩ ∧ sCap < openCap := by
          subst hs'
          cases hsv with
          | slice hp hn hc => exact ⟨_, hp, rfl, rfl, hc⟩
          | sliceOpen hp hn hc => exact absurd rfl hop
          | sliceAny a a' c => exact absurd rfl hany
          | sliceEnd a' hp hc => exact absurd rfl hend
        split at g1 <;> try exact absurd g1 hfl
        · rename_i nn cc e' op hle hb
          have hroom : sLen + (n + 1) ≤ sCap' := ble_t hle
          obtain ⟨k1, k2, k3⟩ := storeN_good hfl _ _ _ _ _ g1
          obtain ⟨hlo, k3⟩ := setBlock_good hfl k3
          obtain ⟨w', j1, j2, j3⟩ := hr.storeAt hlo hb hp g2 k1 k2
          have hcl : sCap' < openCap := hcl0
          refine ⟨φ, _, .slice (some ⟨pl.B, o, none⟩) (sLen + (n + 1)) sCap', _, w', k3, .slice hp hroom hcl, j2, j3, ?_⟩
          rw [hs']
          exact run_append_at ht hu hz2 g4 hroom (fun a ha => by cases ha; rw [addr_add]; exact j1) (fun hh => by cases hh)
        · rename_i hle
          have hlt := ble_f hle
          split at g1 <;> try exact absurd g1 hfl
          obtain ⟨old, old', k1, k2, k3, k4⟩ := firstB_sound hfl hr g1 hsv ⟨_, _, _, rfl, Nat.le_refl _⟩
          exact fresh (w1 := w) (κ1 := κ) hr.drew (Ext.refl _ _ _).drew hneed hlt k2 k3 k4 k1
    · exact absurd g1 hfl

end Go.Vai
