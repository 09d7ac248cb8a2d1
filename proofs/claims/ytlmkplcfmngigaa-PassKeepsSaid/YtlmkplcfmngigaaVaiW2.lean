/-
  PROVED HERE: a part of a calculus of weakest conditions over an abstract heap.
  The weakest conditions are sound.
-/
import Derived.Test.YtlmkplcfmngigaaVaiW
set_option linter.unusedVariables false
set_option linter.unusedSimpArgs false
namespace Go.Vai
open Go
variable {P : Program} {φ : Emb} {h : Heap} {w : World}

/-- what holds, holds -/
abbrev ok (p : Prop) : Prop := p
theorem ok_false : ¬ ok False := id
theorem primsW : PrimsOk ok (prW P) P :=
  ⟨fun _ _ h => h, fun f g hg args args' h φ w κ ha hr hgd => by cases hg; exact hgd φ w args' ha hr⟩
theorem noRec_ok : RunOk ok P noRec := by
  intro c r tm h κ φ w nt a _ _ _ _ hg
  exact False.elim hg

def Keep (ss : List Nat) (nt : Nat) (tm tm' : T Value) : Prop := ∀ t, t < nt → t ∉ ss → tmv tm' t = tmv tm t

def PostW (P : Program) (nt : Nat) (φ : Emb) (h : Heap) (w : World) (ds : List Deferred) (κ : KT) (ss : List Nat) (tm : T Value) (e : Exit) (a' : Act) (w' : World) : Prop :=
  ∃ x tm' h' φ', e = exOf x ∧ κ x tm' h' ∧ TR φ' nt tm' a' ∧ HR P φ' h' w' ∧ Ext φ φ' h h' w w' ∧ a'.defers = ds ∧ Keep ss nt tm tm'

theorem PostW.after {nt : Nat} {φ1 : Emb} {h1 : Heap} {w1 : World} {ds ds1 : List Deferred} {κ : KT} {ss ss1 ss2 : List Nat} {tm tm1 tm1' : T Value} {e : Exit} {a2 : Act} {w2 : World} (hx : Ext φ φ1 h h1 w w1)
    (hd : ds1 = ds) (hk : Keep ss1 nt tm tm1) (hk' : ∀ t, t < nt → tmv tm1' t = tmv tm1 t) (hs : ∀ t, t ∉ ss → t ∉ ss1 ∧ t ∉ ss2) (hp : PostW P nt φ1 h1 w1 ds1 κ ss2 tm1' e a2 w2) : PostW P nt φ h w ds κ ss tm e a2 w2 := by
  obtain ⟨x, tm2, h2, φ2, rfl, k1, k2, k3, k4, k5, k6⟩ := hp
  exact ⟨x, tm2, h2, φ2, rfl, k1, k2, k3, hx.trans k4, k5.trans hd, fun t ht hn => (k6 t ht (hs t hn).2).trans ((hk' t ht).trans (hk t ht (hs t hn).1))⟩

theorem mem_addN {n t : Nat} {l : List Nat} : t ∈ addN n l ↔ t = n ∨ t ∈ l := by
  unfold addN
  split
  · rename_i h
    obtain ⟨x, hx, he⟩ := List.any_eq_true.mp h
    have := beq_t he
    subst this
    constructor
    · exact .inr
    · rintro (rfl | h') <;> assumption
  · simp
theorem mem_joinN {t : Nat} {l m : List Nat} : t ∈ joinN l m ↔ t ∈ l ∨ t ∈ m := by
  induction l with
  | nil => simp [joinN]
  | cons a l ih =>
    show t ∈ addN a (joinN l m) ↔ _
    rw [mem_addN, ih]; simp [or_assoc]
theorem mem_asgOps {t : Nat} : ∀ {l : List Oper}, t ∈ asgOps l ↔ ∃ o ∈ l, o.dst = some t := by
  intro l
  induction l with
  | nil => simp [asgOps]
  | cons o l ih =>
    have : asgOps (o :: l) = match o.dst with | some d => addN d (asgOps l) | none => asgOps l := rfl
    rw [this]
    cases hd : o.dst with
    | none => simp only [ih]; constructor
              · rintro ⟨q, hq, e⟩; exact ⟨q, .tail _ hq, e⟩
              · rintro ⟨q, hq, e⟩
                cases hq with
                | head => rw [hd] at e; cases e
                | tail _ hq => exact ⟨q, hq, e⟩
    | some d =>
      simp only [mem_addN, ih]
      constructor
      · rintro (rfl | ⟨q, hq, e⟩)
        · exact ⟨o, .head _, hd⟩
        · exact ⟨q, .tail _ hq, e⟩
      · rintro ⟨q, hq, e⟩
        cases hq with
        | head => rw [hd] at e; cases e; exact .inl rfl
        | tail _ hq => exact .inr ⟨q, hq, e⟩

/-- slots laid anew with what they hold -/
theorem tmv_layI {nt : Nat} : ∀ (ss : List Nat) (pre : List Value) (f : Nat → Value) (tm : T Value) (t : Nat), (∀ s ∈ ss, s < nt) → t < nt → tmv (layI pre.length ss (pre ++ ss.map f) tm) t = if t ∈ ss then f t else tmv tm t := by
  intro ss
  induction ss with
  | nil => intro pre f tm t _ _; simp [layI]
  | cons s ss ih =>
    intro pre f tm t hs ht
    simp only [List.map_cons, layI]
    have hsl : slot (pre ++ f s :: ss.map f) pre.length = f s := by simp [slot]
    rw [hsl]
    have hih := ih (pre ++ [f s]) f (tm.upd s (f s)) t (fun s hs' => hs s (.tail _ hs')) ht
    simp only [List.length_append, List.length_cons, List.length_nil, List.append_assoc, List.cons_append, List.nil_append, Nat.zero_add] at hih
    rw [hih]
    by_cases h1 : t ∈ ss
    · rw [if_pos h1, if_pos (.tail _ h1)]
    · rw [if_neg h1]
      have h2 : tmv (tm.upd s (f s)) t = if s = t then f s else tmv tm t := by
        simp only [tmv]
        rw [T.get_upd _ _ (Nat.lt_succ_self _) (Nat.lt_succ_self _)]
        by_cases hst : s = t
        · rw [if_pos hst, if_pos hst]
        · rw [if_neg hst, if_neg hst]
      rw [h2]
      by_cases h3 : s = t
      · subst h3; rw [if_pos rfl, if_pos (.head _)]
      · rw [if_neg h3, if_neg (by simp [h1, Ne.symm h3])]
theorem tmv_layL {nt : Nat} (ss : List Nat) (f : Nat → Value) (tm : T Value) (t : Nat) (hs : ∀ s ∈ ss, s < nt) (ht : t < nt) : tmv (layL ss (ss.map f) tm) t = if t ∈ ss then f t else tmv tm t :=
  tmv_layI ss [] f tm t hs ht

theorem tmv_relay {nt : Nat} {ss : List Nat} {tm tm' : T Value} (hs : ∀ s ∈ ss, s < nt) (hk : Keep ss nt tm tm') : ∀ t, t < nt → tmv (layL ss (ss.map (tmv tm')) tm) t = tmv tm' t := by
  intro t ht
  rw [tmv_layL ss _ _ t hs ht]
  split
  · rfl
  · rename_i h; exact (hk t ht h).symm

theorem TR.relay {nt : Nat} {ss : List Nat} {tm tm' : T Value} {a : Act} (hs : ∀ s ∈ ss, s < nt) (hk : Keep ss nt tm tm') (ht : TR φ nt tm' a) : TR φ nt (layL ss (ss.map (tmv tm')) tm) a :=
  ⟨ht.size, ht.small, fun t hlt => by rw [tmv_relay hs hk t hlt]; exact ht.rel t hlt⟩

theorem asg_lt {nt : Nat} : ∀ {c : Code}, codeOk nt c = true → ∀ s ∈ asg c, s < nt := by
  intro c
  induction c with
  | region id os d =>
    intro hc s hs
    simp only [codeOk, List.all_eq_true] at hc
    obtain ⟨o, ho, he⟩ := mem_asgOps.mp hs
    have := operOk_dst (hc o ho)
    rw [he] at this
    exact lt_of_ble this
  | seq a b iha ihb =>
    intro hc s hs
    simp only [codeOk, Bool.and_eq_true] at hc
    rcases mem_joinN.mp hs with h | h
    · exact iha hc.1 s h
    · exact ihb hc.2 s h
  | cond x a b iha ihb =>
    intro hc s hs
    simp only [codeOk, Bool.and_eq_true] at hc
    rcases mem_joinN.mp hs with h | h
    · exact iha hc.1.2 s h
    · exact ihb hc.2 s h
  | block id c ih => intro hc s hs; exact ih hc s hs
  | loop c ih => intro hc s hs; exact ih hc s hs
  | scope c ih => intro hc s hs; exact ih hc s hs
  | _ => intro _ s hs; simp [asg] at hs

theorem not_asgOps {os : Array Oper} {t : Nat} (h : t ∉ asgOps os.toList) : ∀ (i : Nat) (o : Oper), os[i]? = some o → o.dst ≠ some t := by
  intro i o ho hd
  exact h (mem_asgOps.mpr ⟨o, List.mem_of_getElem? (by rw [Array.getElem?_toList]; exact ho), hd⟩)

/-- a loop's rounds -/
theorem loop_sound {c : Code} {r : Option Nat} {nt : Nat} {κ : KT} {tm0 : T Value} (hn : r = none ∨ noRf c = true) (hc : codeOk nt c = true)
    (ih : ∀ (tm : T Value) (h : Heap) (κ : KT) (φ : Emb) (w : World) (a : Act), TR φ nt tm a → HR P φ h w → WP P c tm h κ → c.wpIn (FR r) 0 P (PostW P nt φ h w a.defers κ (asg c) tm) a w)
    (I : Nat → List Value → Heap → Prop) (hI : ∀ n l h, I n l h → WP P c (layL (asg c) l tm0) h (toN (fun l' h' => ∃ m, m < n ∧ I m l' h') (asg c) κ)) :
    ∀ (n : Nat) (tm : T Value) (h : Heap) (φ : Emb) (w : World) (a : Act), Keep (asg c) nt tm0 tm → TR φ nt tm a → HR P φ h w → I n ((asg c).map (tmv tm)) h → LoopAt r P c (PostW P nt φ h w a.defers κ (asg c) tm) a w := by
  intro n
  induction n using Nat.strongRecOn with
  | ind n ihn =>
    intro tm h φ w a hk ht hr hi
    have hs := asg_lt hc
    refine LoopAt.round (wpIn_mono (ih _ h _ φ w a (ht.relay hs hk) hr (hI n _ h hi)) ?_)
    rintro e a' w' ⟨x, tm', h', φ', rfl, g1, g2, g3, g4, g5, g6⟩
    have hkeep : Keep (asg c) nt tm tm' := fun t htn hnt => (g6 t htn hnt).trans (tmv_relay hs hk t htn)
    cases x with
    | normal =>
      obtain ⟨m, hm, hi'⟩ := g1
      have hk2 : Keep (asg c) nt tm0 tm' := fun t htn hnt => (hkeep t htn hnt).trans (hk t htn hnt)
      exact (ihn m hm tm' h' φ' w' a' hk2 g2 g3 hi').mono fun e a2 w2 hp => PostW.after g4 g5 hkeep (fun _ _ => rfl) (fun t ht => ⟨ht, ht⟩) hp
    | exit i => exact ⟨.exit i, tm', h', φ', rfl, g1, g2, g3, g4, g5, hkeep⟩
    | ret => exact ⟨.ret, tm', h', φ', rfl, g1, g2, g3, g4, g5, hkeep⟩

theorem WP_sound (hm : P.follows .mixedOrders = true) : ∀ (c : Code) (r : Option Nat) (nt : Nat), (r = none ∨ noRf c = true) → codeOk nt c = true → ∀ (tm : T Value) (h : Heap) (κ : KT) (φ : Emb) (w : World) (a : Act),
    TR φ nt tm a → HR P φ h w → WP P c tm h κ → c.wpIn (FR r) 0 P (PostW P nt φ h w a.defers κ (asg c) tm) a w := by
  intro c
  induction c with
  | skip => intro r nt hn hc tm h κ φ w a ht hr hg; exact wpIn_skip ⟨.normal, tm, h, φ, rfl, hg, ht, hr, Ext.refl _ _ _, rfl, fun _ _ _ => rfl⟩
  | label l => intro r nt hn hc tm h κ φ w a ht hr hg; exact wpIn_label ⟨.normal, tm, h, φ, rfl, hg, ht, hr, Ext.refl _ _ _, rfl, fun _ _ _ => rfl⟩
  | ret => intro r nt hn hc tm h κ φ w a ht hr hg; exact wpIn_ret ⟨.ret, tm, h, φ, rfl, hg, ht, hr, Ext.refl _ _ _, rfl, fun _ _ _ => rfl⟩
  | exit id => intro r nt hn hc tm h κ φ w a ht hr hg; exact wpIn_exit ⟨.exit id, tm, h, φ, rfl, hg, ht, hr, Ext.refl _ _ _, rfl, fun _ _ _ => rfl⟩
  | region id os draw =>
    intro r nt hn hc tm h κ φ w a ht hr hg
    have hok : ∀ q ∈ os.toList, operOk nt q = true := by
      simp only [codeOk, List.all_eq_true] at hc; exact hc
    have hg' : ok (runRegion False (prW P) P noRec os.toList draw tm h fun tm h => κ .normal tm h) := by
      have : regW P os.toList draw tm h (fun tm h => κ .normal tm h) := hg
      rwa [regW_eq] at this
    have hQ : ∀ tm' h' φ' a' w', ok ((fun tm h => κ .normal tm h) tm' h') → TR φ' nt tm' a' → HR P φ' h' w' → Ext φ φ' h h' w w' → a'.defers = a.defers →
        (∀ t, t < nt → (∀ (i : Nat) (o : Oper), os[i]? = some o → o.dst ≠ some t) → tmv tm' t = tmv tm t) → PostW P nt φ h w a.defers κ (asg (.region id os draw)) tm .normal a' w' :=
      fun tm' h' φ' a' w' g1 g2 g3 g4 g5 g6 => ⟨.normal, tm', h', φ', rfl, g1, g2, g3, g4, g5, fun t ht hnt => g6 t ht (not_asgOps hnt)⟩
    cases draw with
    | false =>
      refine wpIn_region ?_
      rw [List.range_eq_range']
      have := runOps_sound (r0 := r) (tm0 := tm) ok_false primsW noRec_ok hok hQ os.toList 0 φ tm h a w (fun k => by simp) ht hr (Ext.refl _ _ _) rfl (fun _ _ _ => rfl) hg'
      simpa using this
    | true => exact draw_sound (good := ok) ok_false primsW hm noRec noRec_ok os id nt hok φ tm h a w _ ht hr hg' r _ hQ
  | seq x y ihx ihy =>
    intro r nt hn hc tm h κ φ w a ht hr hg
    simp only [codeOk, Bool.and_eq_true] at hc
    obtain ⟨hn1, hn2⟩ := noRf_or (x := x) (y := y) hn rfl
    have hmem : ∀ t, t ∉ asg (.seq x y) → t ∉ asg x ∧ t ∉ asg y := fun t ht => by
      have : ¬ (t ∈ asg x ∨ t ∈ asg y) := fun hh => ht (mem_joinN.mpr hh)
      exact not_or.mp this
    unfold WP at hg
    split at hg
    · refine wpIn_seq (wpIn_mono (ihx r nt hn1 hc.1 tm h _ φ w a ht hr hg) ?_)
      rintro e a' w' ⟨e0, tm', h', φ', rfl, g1, g2, g3, g4, g5, g6⟩
      cases e0 with
      | normal => exact wpIn_mono (ihy r nt hn2 hc.2 tm' h' κ φ' w' a' g2 g3 g1) fun e a2 w2 hp => PostW.after g4 g5 g6 (fun _ _ => rfl) hmem hp
      | exit i => exact ⟨.exit i, tm', h', φ', rfl, g1, g2, g3, g4, g5, fun t ht hnt => g6 t ht (hmem t hnt).1⟩
      | ret => exact ⟨.ret, tm', h', φ', rfl, g1, g2, g3, g4, g5, fun t ht hnt => g6 t ht (hmem t hnt).1⟩
    · obtain ⟨J, hA, hB⟩ := hg
      refine wpIn_seq (wpIn_mono (ihx r nt hn1 hc.1 tm h _ φ w a ht hr hA) ?_)
      rintro e a' w' ⟨e0, tm', h', φ', rfl, g1, g2, g3, g4, g5, g6⟩
      have hs := asg_lt hc.1
      cases e0 with
      | normal => exact wpIn_mono (ihy r nt hn2 hc.2 _ h' κ φ' w' a' (g2.relay hs g6) g3 (hB _ _ g1)) fun e a2 w2 hp => PostW.after g4 g5 g6 (tmv_relay hs g6) hmem hp
      | exit i => exact ⟨.exit i, tm', h', φ', rfl, g1, g2, g3, g4, g5, fun t ht hnt => g6 t ht (hmem t hnt).1⟩
      | ret => exact ⟨.ret, tm', h', φ', rfl, g1, g2, g3, g4, g5, fun t ht hnt => g6 t ht (hmem t hnt).1⟩
  | cond x c1 c2 ih1 ih2 =>
    intro r nt hn hc tm h κ φ w a ht hr hg
    simp only [codeOk, Bool.and_eq_true] at hc
    obtain ⟨hn1, hn2⟩ := noRf_or (x := c1) (y := c2) hn rfl
    have hmem : ∀ t, t ∉ asg (.cond x c1 c2) → t ∉ asg c1 ∧ t ∉ asg c2 := fun t ht => by
      have : ¬ (t ∈ asg c1 ∨ t ∈ asg c2) := fun hh => ht (mem_joinN.mpr hh)
      exact not_or.mp this
    have hg' : CondW (evv tm x) (WP P c1 tm h κ) (WP P c2 tm h κ) := hg
    have hx := ht.eval hc.1.1
    unfold CondW at hg'
    split at hg' <;> try exact hg'.elim
    · rename_i hv
      rw [hv] at hx
      refine wpIn_cond_true (by generalize a.eval x = z at hx; cases hx; rfl) (wpIn_mono (ih1 r nt hn1 hc.1.2 tm h κ φ w a ht hr hg') ?_)
      rintro e a' w' ⟨e0, tm', h', φ', rfl, g1, g2, g3, g4, g5, g6⟩
      exact ⟨e0, tm', h', φ', rfl, g1, g2, g3, g4, g5, fun t ht hnt => g6 t ht (hmem t hnt).1⟩
    · rename_i hv
      rw [hv] at hx
      refine wpIn_cond_false (by generalize a.eval x = z at hx; cases hx; rfl) (wpIn_mono (ih2 r nt hn2 hc.2 tm h κ φ w a ht hr hg') ?_)
      rintro e a' w' ⟨e0, tm', h', φ', rfl, g1, g2, g3, g4, g5, g6⟩
      exact ⟨e0, tm', h', φ', rfl, g1, g2, g3, g4, g5, fun t ht hnt => g6 t ht (hmem t hnt).2⟩
  | block id c ih =>
    intro r nt hn hc tm h κ φ w a ht hr hg
    refine wpIn_block (wpIn_mono (ih r nt hn hc tm h _ φ w a ht hr hg) ?_)
    rintro e a' w' ⟨e0, tm', h', φ', rfl, g1, g2, g3, g4, g5, g6⟩
    cases e0 with
    | normal => exact ⟨.normal, tm', h', φ', rfl, g1, g2, g3, g4, g5, g6⟩
    | ret => exact ⟨.ret, tm', h', φ', rfl, g1, g2, g3, g4, g5, g6⟩
    | exit i =>
      have g1' : Bool.rec (motive := fun _ => Prop) (κ (.exit i) tm' h') (κ .normal tm' h') (Nat.beq i id) := g1
      simp only [exOf, Exit.inBlock]
      cases hb : Nat.beq i id with
      | true =>
        rw [hb] at g1'
        rw [if_pos (beq_t hb)]
        exact ⟨.normal, tm', h', φ', rfl, g1', g2, g3, g4, g5, g6⟩
      | false =>
        rw [hb] at g1'
        rw [if_neg (beq_f hb)]
        exact ⟨.exit i, tm', h', φ', rfl, g1', g2, g3, g4, g5, g6⟩
  | scope c ih =>
    intro r nt hn hc tm h κ φ w a ht hr hg
    refine wpIn_scope (ih r nt hn hc tm h κ φ w a ht hr hg) ?_
    rintro l a' w' ⟨x, tm', h', φ', hx, _⟩
    cases x <;> cases hx
  | loop c ih =>
    intro r nt hn hc tm h κ φ w a ht hr hg
    obtain ⟨I, ⟨n, h0⟩, hI⟩ := hg
    exact (loop_sound (c := c) (κ := κ) (tm0 := tm) hn hc (fun tm h κ φ w a => ih r nt hn hc tm h κ φ w a) I hI n tm h φ w a (fun _ _ _ => rfl) ht hr h0).wp
  | _ => intro r nt hn hc tm h κ φ w a ht hr hg; exact False.elim hg

theorem resW_eq (h : Heap) (tm : T Value) : ∀ (rs : List XRes) (κ : List Value → Prop), resW h tm rs κ = resultsB False h tm rs κ := by
  intro rs
  induction rs with
  | nil => intro κ; rfl
  | cons r rs ih =>
    intro κ
    cases r with
    | tmp t => simp only [resultsB, ev_eq]; exact ih _
    | one a => simp only [resultsB, ev_eq]; show load1 False (tmv tm a) h (fun v _ => resW h tm rs fun vs => κ (v :: vs)) = _; simp only [ih]; rfl
    | agg a s => simp only [resultsB, ev_eq]; show loadA False s (tmv tm a) h (fun v _ => resW h tm rs fun vs => κ (v :: vs)) = _; simp only [ih]; rfl
    | bad => rfl
theorem oneW_eq (κ : Value → Heap → Prop) (h : Heap) (vs : List Value) : oneW κ h vs = oneOr κ h vs := by
  cases vs with
  | nil => rfl
  | cons v vs => cases vs <;> rfl

theorem callW_of (hm : P.follows .mixedOrders = true) {f : FuncId} {args : List Value} {h : Heap} {κ : Value → Heap → Prop} (hg : BodyW P f args h κ) : CallW P f args h κ := by
  intro φ w args' ha hr
  unfold BodyW at hg
  split at hg
  · exact hg.elim
  · rename_i c rs nt hc
    obtain ⟨fn, hf, hb, rfl, rfl, hck, hrk, hnt, hcall⟩ := callOk_sound hc
    split at hg <;> try exact hg.elim
    rename_i hle
    refine ⟨hcall _ _, ?_⟩
    have hst := TR.start (nt := fn.ntmps) ha hnt (ble_t hle)
    refine callsFR (r := none) (n := 0) |>.1 (callsIn_of_wp_marks hf hb trivial (wpIn_mono (WP_sound hm c none _ (.inl rfl) hck _ h _ φ w _ hst hr hg) ?_))
    rintro e a' w' ⟨x, tm', h', φ', rfl, g1, g2, g3, g4, g5, _⟩
    have hms : a'.defers = [] := g5
    have fin : resW h' tm' (fn.results.toList.map (resOf P)) (fun vs => oneW κ h' vs) →
        LeavesInM (FR none) 0 P fn a'.tmps (fun e w' => ∃ φ' v v' h', e = .returned v' ∧ ok (κ v h') ∧ VR φ' v v' ∧ HR P φ' h' w' ∧ Ext φ φ' h h' w w') a'.defers .returning w' := by
      intro k
      rw [resW_eq] at k
      simp only [oneW_eq] at k
      rw [hms]
      refine leave_marks (a := a') (φ' := φ') (h' := h') ?_ [] w'.heap.size w' trivial g3 g4
      intro w2 hr2 hx2
      obtain ⟨vs, vs', k1, k2, k3⟩ := resultsB_sound (good := ok) ok_false hr2 g2 _ hrk k
      refine ⟨_, results_mapM k3, ?_⟩
      cases k2 with
      | nil => exact ⟨φ', _, _, h', rfl, k1, VR.tuple' .nil, hr2, hx2⟩
      | cons hv hvs =>
        cases hvs with
        | nil => exact ⟨φ', _, _, h', rfl, k1, hv, hr2, hx2⟩
        | cons hv2 hvs => exact ⟨φ', _, _, h', rfl, k1, VR.tuple' (.cons hv (.cons hv2 hvs)), hr2, hx2⟩
    cases x with
    | normal => exact fin g1
    | exit i => exact False.elim g1
    | ret => exact fin g1

/-- a call's condition weakened -/
theorem CallW.mono {f : FuncId} {args : List Value} {κ κ' : Value → Heap → Prop} (hc : CallW P f args h κ) (hk : ∀ v h', κ v h' → κ' v h') : CallW P f args h κ' := by
  intro φ w args' ha hr
  obtain ⟨h1, h2⟩ := hc φ w args' ha hr
  refine ⟨h1, h2.mono ?_⟩
  rintro e w' ⟨φ', v, v', h', rfl, g1, g2, g3, g4⟩
  exact ⟨φ', v, v', h', rfl, hk _ _ g1, g2, g3, g4⟩
end Go.Vai
