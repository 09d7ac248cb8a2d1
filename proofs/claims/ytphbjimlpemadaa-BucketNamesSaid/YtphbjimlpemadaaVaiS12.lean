/-
  PROVED HERE: a part of an interpreter for the model's code, and that it is sound.
  The interpreter is sound, part 12: calls, operations, code.
-/
import Derived.Test.YtphbjimlpemadaaVaiS11
set_option linter.unusedVariables false
set_option linter.unusedSimpArgs false
namespace Go.Vai
open Go
variable {β : Type} {fl : β} {good : β → Prop} {pr : Prims β} {P : Program} {φ : Emb} {h : Heap} {w : World} {t : TypeId}

def exOf : Ex → Exit
  | .normal => .normal
  | .exit i => .exit i
  | .ret => .ret

/-- the marks of ranges over functions: their blocks, new ones, each below the one before -/
def Marks (N : Nat) (φ : Emb) (w : World) : Nat → List Deferred → Prop
  | _, [] => True
  | U, d :: l => ∃ D, d = { target := .collected D, args := #[] } ∧ N ≤ D ∧ D < U ∧ w.heap[D]? = some (.deferred (some [])) ∧ (∀ b pl, φ b = some pl → pl.B ≠ D) ∧ Marks N φ w D l

theorem Marks.le {N : Nat} : ∀ {l : List Deferred} {U U' : Nat}, Marks N φ w U l → U ≤ U' → Marks N φ w U' l
  | [], _, _, _, _ => trivial
  | _ :: _, _, _, ⟨D, h1, h2, h3, h4, h5, h6⟩, hU => ⟨D, h1, h2, Nat.lt_of_lt_of_le h3 hU, h4, h5, h6⟩

theorem Ext.notin {φ' : Emb} {h' : Heap} {w' : World} (hx : Ext φ φ' h h' w w') {D : Nat} (hD : D < w.heap.size) (hn : ∀ b pl, φ b = some pl → pl.B ≠ D) : ∀ b pl, φ' b = some pl → pl.B ≠ D := by
  intro b pl hb
  cases h0 : φ b with
  | some p =>
    have := hx.sub b p h0
    rw [hb] at this; cases this
    exact hn b pl h0
  | none =>
    rcases (hx.new b pl h0 hb).2 with h1 | ⟨b0, p0, h1, h2⟩
    · omega
    · rw [← h2]; exact hn b0 p0 h1

theorem Marks.mono {N : Nat} {φ' : Emb} {h' : Heap} {w' : World} (hx : Ext φ φ' h h' w w') : ∀ {l : List Deferred} {U : Nat}, U ≤ w.heap.size → Marks N φ w U l → Marks N φ' w' U l
  | [], _, _, _ => trivial
  | _ :: _, _, hU, ⟨D, h1, h2, h3, h4, h5, h6⟩ =>
    ⟨D, h1, h2, h3, by rw [hx.frC D (by omega) h5]; exact h4, hx.notin (by omega) h5, Marks.mono hx (by omega) h6⟩

theorem Marks.append {N N2 U1 : Nat} {l1 : List Deferred} (h1 : Marks N φ w U1 l1) (hN : N ≤ N2) (hU : U1 ≤ N2) : ∀ {l2 : List Deferred} {U : Nat}, U1 ≤ U → Marks N2 φ w U l2 → Marks N φ w U (l2 ++ l1)
  | [], _, hle, _ => h1.le hle
  | _ :: _, _, _, ⟨D, e1, e2, e3, e4, e5, e6⟩ => ⟨D, e1, Nat.le_trans hN e2, e3, e4, e5, Marks.append h1 hN hU (Nat.le_trans hU e2) e6⟩

/-- where a piece of code may come to -/
def Post (good : β → Prop) (P : Program) (nt : Nat) (φ : Emb) (h : Heap) (w : World) (ds : List Deferred) (κ : Ex → T Value → Heap → β) (e : Exit) (a' : Act) (w' : World) : Prop :=
  ∃ x tm' h' φ', e = exOf x ∧ good (κ x tm' h') ∧ TR φ' nt tm' a' ∧ HR P φ' h' w' ∧ Ext φ φ' h h' w w' ∧ ∃ ms, a'.defers = ms ++ ds ∧ Marks w.heap.size φ' w' w'.heap.size ms

def RunOk (good : β → Prop) (P : Program) (rec : Rec β) : Prop :=
  ∀ (c : Code) (r : Option Nat) (tm : T Value) (h : Heap) (κ : Ex → T Value → Heap → β) (φ : Emb) (w : World) (nt : Nat) (a : Act), (r = none ∨ noRf c = true) → codeOk nt c = true → TR φ nt tm a → HR P φ h w → good (rec c tm h κ) →
    c.wpIn (FR r) 0 P (Post good P nt φ h w a.defers κ) a w

structure PrimsOk (good : β → Prop) (pr : Prims β) (P : Program) : Prop where
  both : ∀ x y, good (pr.both x y) → good x ∧ good y
  fn : ∀ f g, pr.fn f = some g → ∀ (args args' : List Value) (h : Heap) (φ : Emb) (w : World) (κ : Value → Heap → β), F2 (VR φ) args args' → HR P φ h w → good (g args h κ) → CallTo good P φ h w κ f args'.toArray

/-- a block that nobody names is turned -/
theorem HR.aside (hr : HR P φ h w) {D : Nat} (hn : ∀ b pl, φ b = some pl → pl.B ≠ D) (o : Obj) : HR P φ h (w.putObj D o) := by
  refine ⟨fun b ob pl h1 h2 => ?_, fun b pl h1 => ?_, hr.keys, hr.nxs, hr.inj, hr.lo⟩
  · rw [World.putObj_heap_other (hn b pl h2)]; exact hr.obj b ob pl h1 h2
  · rw [World.putObj_size]; exact hr.dom b pl h1
theorem Ext.aside {φ' : Emb} {h' : Heap} {w0 : World} (hx : Ext φ φ' h h' w0 w) {D : Nat} (hD : w0.heap.size ≤ D) (ds : Option (List Deferred)) : Ext φ φ' h h' w0 (w.putObj D (.deferred ds)) where
  sub := hx.sub
  new := hx.new
  nx := hx.nx
  size := by rw [World.putObj_size]; exact hx.size
  frC := fun B hB hn => by rw [World.putObj_heap_other (by omega)]; exact hx.frC B hB hn
  frA := hx.frA
  tape := hx.tape
  os := hx.os
  output := hx.output
  fz := fun B hB => by
    by_cases he : B = D
    · subst he
      by_cases hl : B < w.heap.size
      · rw [World.putObj_heap_same hl]; trivial
      · have : (w.putObj B (.deferred ds)).heap[B]? = none := by simp [World.putObj_size]; omega
        rw [this]; trivial
    · rw [World.putObj_heap_other he]; exact hx.fz B hB
  lo := hx.lo
  frL := hx.frL

/-- the marks are come to, one by one; then the results are read -/
theorem leave_marks {fn : Func} {a : Act} {φ' : Emb} {h' : Heap} {w0 : World} {R : Ending → World → Prop}
    (hend : ∀ w' : World, HR P φ' h' w' → Ext φ φ' h h' w0 w' → ∃ v, (results fn a.tmps).run P w' = .ok v w' ∧ R (.returned v) w') :
    ∀ (ms : List Deferred) (U : Nat) (w' : World), Marks w0.heap.size φ' w' U ms → HR P φ' h' w' → Ext φ φ' h h' w0 w' → LeavesInM (FR none) 0 P fn a.tmps R ms .returning w'
  | [], _, w', _, hr, hx => hend w' hr hx
  | _ :: ms, _, w', ⟨D, e1, e2, e3, e4, e5, e6⟩, hr, hx => by
    subst e1
    have hr' := hr.aside e5 (.deferred none)
    have hx' := hx.aside e2 none
    refine ⟨by simp, .inl ⟨D, w'.putObj D (.deferred none), rfl, run_takeDeferred e4, leave_marks hend ms D _ ?_ hr' hx'⟩⟩
    -- the others lie as they lay
    have keep : ∀ (l : List Deferred) (U : Nat), U ≤ D → Marks w0.heap.size φ' w' U l → Marks w0.heap.size φ' (w'.putObj D (.deferred none)) U l := by
      intro l
      induction l with
      | nil => intro _ _ _; trivial
      | cons d l ih =>
        rintro U hU ⟨D', f1, f2, f3, f4, f5, f6⟩
        exact ⟨D', f1, f2, f3, by rw [World.putObj_heap_other (by omega)]; exact f4, f5, ih D' (by omega) f6⟩
    exact keep ms D (Nat.le_refl _) e6

theorem callOk_sound {f : FuncId} {c : Code} {rs : List XRes} {nt : Nat} (hc : callOk P f = .mk c rs nt) :
    ∃ fn, P.funcs[f]? = some fn ∧ fn.body = some c ∧ fn.ntmps = nt ∧ rs = fn.results.toList.map (resOf P) ∧ codeOk nt c = true ∧ fn.results.toList.all (resOk nt) = true ∧ nt ≤ 1000000000000 ∧
      ∀ (args : Array Value) (w : World), (callFunc f args).run P w = .ok (.enter f args) w := by
  unfold callOk at hc
  split at hc <;> try contradiction
  rename_i fn hf
  split at hc <;> try contradiction
  rename_i hn
  split at hc <;> try contradiction
  rename_i c' hb
  split at hc <;> try contradiction
  rename_i hok
  simp only [Bool.and_eq_true] at hok
  cases hc
  refine ⟨fn, hf, hb, rfl, rfl, hok.1.1, hok.1.2, ble_t hok.2, fun args w => ?_⟩
  have hn' : ¬ fn.name = "runtime.NumGoroutine" := by simpa using hn
  simp [callFunc, hf, hn', hb]

theorem layArgs_eq (vs : List Value) : ∀ (tm : T Value) (i : Nat) (κ : T Value → β), layArgs vs tm i κ = κ (lay vs tm i) := by
  induction vs with
  | nil => intro tm i κ; rfl
  | cons v vs ih =>
    intro tm i κ
    show T.set tm i v (fun tm => layArgs vs tm (Nat.succ i) κ) = _
    rw [T.set_eq, ih]
    rfl

theorem TR.start {args args' : List Value} {nt : Nat} (ha : F2 (VR φ) args args') (hn : nt ≤ 1000000000000) (hle : args.length ≤ nt) :
    TR φ nt (lay args .nil 0) { tmps := args'.toArray ++ Array.replicate (nt - args'.toArray.size) undef, defers := [] } := by
  have hlen := ha.length
  refine ⟨by simp [← hlen]; omega, hn, fun t ht => ?_⟩
  simp only [tmv]
  rw [get_lay args .nil 0 (by omega) t (by unfold Small; omega)]
  simp only [Array.getD_eq_getD_getElem?]
  by_cases hlt : t < args.length
  · rw [if_pos (by omega)]
    obtain ⟨v, hv⟩ : ∃ v, args[t]? = some v := ⟨args[t], by simp [hlt]⟩
    obtain ⟨v', e1, e2⟩ := ha.get t v hv
    rw [Array.getElem?_append_left (by simp; omega)]
    simpa [hv, e1] using e2
  · rw [if_neg (by omega), T.get_nil, Array.getElem?_append_right (by simp; omega), Array.getElem?_replicate]
    have hu : ((if t - args'.toArray.size < nt - args'.toArray.size then some undef else none : Option Value).getD undef) = undef := by split <;> rfl
    rw [hu]
    exact VR.undef

theorem F2.toList {a a' : Array Value} (h : a.toList.length = a'.toList.length) (hv : ∀ (i : Nat) (v v' : Value), a.toList[i]? = some v → a'.toList[i]? = some v' → VR φ v v') : F2 (VR φ) a.toList a'.toList :=
  F2.of_get h hv

theorem callF_sound (hfl : ¬ good fl) (hp : PrimsOk good pr P) {rec : Rec β} (hrec : RunOk good P rec) {f : FuncId} {args args' : List Value} (ha : F2 (VR φ) args args') (hr : HR P φ h w)
    {κ : Value → Heap → β} (hg : good (callF fl pr P rec f args h κ)) : CallTo good P φ h w κ f args'.toArray := by
  unfold callF at hg
  split at hg
  · rename_i g hg'
    exact hp.fn f g hg' args args' h φ w κ ha hr hg
  · split at hg
    · exact absurd hg hfl
    · rename_i c rs nt hc
      obtain ⟨fn, hf, hb, rfl, rfl, hck, hrk, hnt, hcall⟩ := callOk_sound hc
      split at hg <;> try exact absurd hg hfl
      rename_i hle
      rw [layArgs_eq] at hg
      refine ⟨hcall _ _, ?_⟩
      have hst := TR.start (nt := fn.ntmps) ha hnt (ble_t hle)
      refine callsFR (r := none) (n := 0) |>.1 (callsIn_of_wp_marks hf hb trivial (wpIn_mono (hrec c none _ h _ φ w fn.ntmps _ (.inl rfl) hck hst hr hg) ?_))
      rintro e a' w' ⟨x, tm', h', φ', rfl, g1, g2, g3, g4, ms, g5, g6⟩
      have hms : a'.defers = ms := by rw [g5]; simp
      have fin : good (resultsB fl h' tm' (fn.results.toList.map (resOf P)) fun vs => oneOr κ h' vs) →
          LeavesInM (FR none) 0 P fn a'.tmps (fun e w' => ∃ φ' v v' h', e = .returned v' ∧ good (κ v h') ∧ VR φ' v v' ∧ HR P φ' h' w' ∧ Ext φ φ' h h' w w') a'.defers .returning w' := by
        intro k
        rw [hms]
        refine leave_marks (a := a') (φ' := φ') (h' := h') ?_ ms _ w' g6 g3 g4
        intro w2 hr2 hx2
        obtain ⟨vs, vs', k1, k2, k3⟩ := resultsB_sound hfl hr2 g2 _ hrk k
        refine ⟨_, results_mapM k3, ?_⟩
        cases k2 with
        | nil => exact ⟨φ', _, _, h', rfl, k1, VR.tuple' .nil, hr2, hx2⟩
        | cons hv hvs =>
          cases hvs with
          | nil => exact ⟨φ', _, _, h', rfl, k1, hv, hr2, hx2⟩
          | cons hv2 hvs => exact ⟨φ', _, _, h', rfl, k1, VR.tuple' (.cons hv (.cons hv2 hvs)), hr2, hx2⟩
      cases x with
      | normal => exact fin g1
      | exit i => exact absurd g1 hfl
      | ret => exact fin g1

theorem OpTo.call {κ : Value → Heap → β} {f : FuncId} {args : Array Value} (hc : CallTo good P φ h w κ f args) {s : Sem Next} (hs : s.run P w = (callFunc f args).run P w) : OpTo good P φ h w κ (s.run P w) :=
  .inr (.inl ⟨f, args, by rw [hs, hc.1], hc.2⟩)

/-! ## rounds -/
/-- the loop behind an abstract one -/
theorem HR.loopAt (hr : HR P φ h w) {b : Nat} {st : LoopState} {pend : Option Ex} {tm : T Value} {ps : List Nat} {x y : Code} {pl : Pl} (hb : h.bl.get b = some (.loop st pend tm ps x y)) (hp : φ b = some pl) :
    ∃ r, w.heap[pl.B]? = some (.loop r) ∧ r.state = st ∧ PendR pend r.pending ∧ r.params.toList = ps ∧ r.assign = x ∧ r.body = y ∧
      ∃ nt, LoopCode nt ps x y ∧ r.tmps.size = nt ∧ ∀ t, t < nt → VR φ (tmv tm t) (r.tmps.getD t undef) := by
  have := hr.obj b _ pl hb hp
  cases hO : w.heap[pl.B]? with
  | none => rw [hO] at this; exact this.elim
  | some O =>
    rw [hO] at this
    cases O <;> simp only [OR] at this <;> try exact this.elim
    exact ⟨_, rfl, this⟩

theorem HR.loopSet (hr : HR P φ h w) {b : Nat} (hlo : h.lo ≤ b) {st st' : LoopState} {pend pend' : Option Ex} {tm : T Value} {ps : List Nat} {x y : Code} {pl : Pl} (hb : h.bl.get b = some (.loop st pend tm ps x y)) (hp : φ b = some pl)
    {r : Loop} (hO : w.heap[pl.B]? = some (.loop r)) {pd : Option Code} (hpd : PendR pend' pd) :
    HR P φ ⟨h.nx, h.bl.upd b (.loop st' pend' tm ps x y), h.lo⟩ (w.putObj pl.B (.loop { r with state := st', pending := pd })) ∧
    Ext φ φ h ⟨h.nx, h.bl.upd b (.loop st' pend' tm ps x y), h.lo⟩ w (w.putObj pl.B (.loop { r with state := st', pending := pd })) := by
  obtain ⟨r', hO', k1, k2, k3, k4, k5, k6⟩ := hr.loopAt hb hp
  rw [hO] at hO'; cases hO'
  refine hr.turn hlo hp ⟨_, hb, trivial⟩ (by simp) (fun k hk => World.putObj_heap_other hk) ?_ rfl rfl rfl (.inl trivial)
  rw [World.putObj_heap_same (hr.dom b pl hp).2]
  exact ⟨rfl, hpd, k3, k4, k5, k6⟩

theorem layAt_eq : ∀ (ps : List Nat) (vs : List Value) (tm : T Value) (κ : T Value → β), ∃ tm', layAt ps vs tm κ = κ tm' ∧
    ∀ {φ : Emb} {nt : Nat} {vs' : List Value} {tmps : Array Value}, F2 (VR φ) vs vs' → ps.length = vs.length → ps.all (fun t => Nat.ble (Nat.succ t) nt) = true → nt ≤ 1000000000000 → tmps.size = nt → (∀ t, t < nt → VR φ (tmv tm t) (tmps.getD t undef)) →
      ((ps.zip vs').foldl (fun t (x : Nat × Value) => t.setIfInBounds x.1 x.2) tmps).size = nt ∧ ∀ t, t < nt → VR φ (tmv tm' t) (((ps.zip vs').foldl (fun t (x : Nat × Value) => t.setIfInBounds x.1 x.2) tmps).getD t undef) := by
  intro ps
  induction ps with
  | nil => intro vs tm κ; exact ⟨tm, by cases vs <;> rfl, fun _ _ _ _ h2 h3 => ⟨by simpa using h2, by simpa using h3⟩⟩
  | cons p ps ih =>
    intro vs tm κ
    cases vs with
    | nil => exact ⟨tm, rfl, fun _ h1 _ _ _ _ => by simp at h1⟩
    | cons v vs =>
      obtain ⟨tm', e1, e2⟩ := ih vs (tm.upd p v) κ
      refine ⟨tm', by show T.set tm p v (fun tm => layAt ps vs tm κ) = _; rw [T.set_eq]; exact e1, ?_⟩
      intro φ nt vs' tmps hv hl hps hnt hsz hrel
      cases hv with
      | cons hv hvs =>
        simp only [List.all_cons, Bool.and_eq_true] at hps
        have hp : p < nt := lt_of_ble hps.1
        simp only [List.zip_cons_cons, List.foldl_cons]
        refine e2 hvs (by simpa using hl) hps.2 hnt (by simpa using hsz) ?_
        intro t ht
        simp only [tmv]
        rw [T.get_upd tm v (small_tmp hnt hp) (small_tmp hnt ht)]
        have := hrel t ht
        simp only [Array.getD_eq_getD_getElem?] at this ⊢
        by_cases he : p = t
        · subst he
          rw [if_pos rfl, Array.getElem?_setIfInBounds_self_of_lt (by omega)]
          exact hv
        · rw [if_neg he, Array.getElem?_setIfInBounds_ne he]
          exact this

theorem PendR.jump {e : Ex} : ∀ {c : Option Code}, PendR (some e) c → (e = .ret ∧ c = some .ret) ∨ ∃ i, e = .exit i ∧ c = some (.exit i) := by
  intro c hp
  cases e <;> cases c <;> try exact hp.elim
  all_goals (rename_i c; cases c <;> try exact hp.elim)
  · exact .inr ⟨_, rfl, by have : _ = _ := hp; rw [this]⟩
  · exact .inl ⟨rfl, rfl⟩

theorem roundB_sound (hfl : ¬ good fl) {rec : Rec β} (hrec : RunOk good P rec) {l : Nat} {pl : Pl} (hp : φ l = some pl) {args args' : List Value} (ha : F2 (VR φ) args args') (hr : HR P φ h w)
    {κ : Value → Heap → β} (hg : good (roundB fl rec l args h κ)) : OpTo good P φ h w κ ((Instr.yield pl.B args'.toArray).run P w) := by
  unfold roundB at hg
  split at hg <;> try exact absurd hg hfl
  rename_i st pend tm0 ps x y hb
  split at hg <;> try exact absurd hg hfl
  rename_i hlen; have hlen := beq_t hlen
  obtain ⟨r, hO, k1, k2, k3, k4, k5, nt, k6, k7, k8⟩ := hr.loopAt hb hp
  obtain ⟨tm1, e1, e2⟩ := layAt_eq ps args tm0 (fun tm => rec x tm h (beginRoundK fl rec l y κ))
  rw [e1] at hg
  have hal := ha.length
  have hps : r.params.size = ps.length := by rw [← k3]; simp
  have hy := run_yield (P := P) (args := args'.toArray) hO (by simp; omega)
  refine .inr (.inr ⟨pl.B, r.fn, _, r.assign, r.body, hy, fun r0 => ?_⟩)
  have hfold : (r.params.zip args'.toArray).foldl (fun tmps (x : Nat × Value) => tmps.setIfInBounds x.1 x.2) r.tmps = (ps.zip args').foldl (fun t (x : Nat × Value) => t.setIfInBounds x.1 x.2) r.tmps := by
    rw [← Array.foldl_toList, Array.toList_zip, k3]
  obtain ⟨f1, f2⟩ := e2 ha (by omega) k6.ps k6.small k7 k8
  rw [k4, k5]
  have hst : TR φ nt tm1 { tmps := (r.params.zip args'.toArray).foldl (fun tmps (x : Nat × Value) => tmps.setIfInBounds x.1 x.2) r.tmps, defers := [] } := by
    rw [hfold]; exact ⟨f1, k6.small, f2⟩
  have hround : RoundIn (FR r0) 0 P pl.B r.fn ((r.params.zip args'.toArray).foldl (fun tmps (x : Nat × Value) => tmps.setIfInBounds x.1 x.2) r.tmps) x y w (Back good P φ h w κ) := by
    refine roundIn_of_wpIn (F := FR r0) trivial ?_
    refine wpIn_mono (hrec x (some pl.B) tm1 h _ φ w nt _ (.inr k6.ra) k6.ca hst hr hg) ?_
    rintro e a1 w1 ⟨x1, tm2, h1, φ1, rfl, g1, g2, g3, g4, ms, g5, g6⟩
    unfold beginRoundK at g1
    split at g1 <;> try exact absurd g1 hfl
    split at g1 <;> try exact absurd g1 hfl
    rename_i pend1 tm01 ps1 x2 y2 hb1
    obtain ⟨hlo, g1⟩ := setBlock_good hfl g1
    have hp1 := g4.sub l pl hp
    obtain ⟨r1, hO1, q1, q2, q3, q4, q5, q6⟩ := g3.loopAt hb1 hp1
    obtain ⟨m1, m2⟩ := g3.loopSet (st' := .busy) (pend' := pend1) hlo hb1 hp1 hO1 (pd := r1.pending) q2
    refine ⟨_, run_beginRound hO1 q1, ?_⟩
    refine wpIn_mono (hrec y (some pl.B) tm2 _ _ φ1 _ nt a1 (.inr k6.rb) k6.cb g2 m1 g1) ?_
    rintro e a2 w2 ⟨x3, tm3, h3, φ3, rfl, j1, j2, j3, j4, ms2, j5, j6⟩
    unfold endRoundK at j1
    split at j1 <;> try exact absurd j1 hfl
    rename_i st3 pend3 tm03 ps3 x4 y4 hb3
    have hp3 := j4.sub l pl hp1
    obtain ⟨r3, hO3, _⟩ := j3.loopAt hb3 hp3
    have hall := g4.trans (m2.trans j4)
    cases x3 with
    | normal =>
      obtain ⟨hlo3, j1⟩ := setBlock_good hfl j1
      obtain ⟨n1, n2⟩ := j3.loopSet (st' := .ready) (pend' := none) hlo3 hb3 hp3 hO3 (pd := none) trivial
      exact ⟨_, _, run_endRound none hO3, φ3, _, _, _, rfl, j1, .bool true, n1, hall.trans n2⟩
    | exit i =>
      obtain ⟨hlo3, j1⟩ := setBlock_good hfl j1
      obtain ⟨n1, n2⟩ := j3.loopSet (st' := .done) (pend' := some (.exit i)) hlo3 hb3 hp3 hO3 (pd := some (.exit i)) rfl
      exact ⟨_, _, run_endRound (some (.exit i)) hO3, φ3, _, _, _, rfl, j1, .bool false, n1, hall.trans n2⟩
    | ret =>
      obtain ⟨hlo3, j1⟩ := setBlock_good hfl j1
      obtain ⟨n1, n2⟩ := j3.loopSet (st' := .done) (pend' := some .ret) hlo3 hb3 hp3 hO3 (pd := some .ret) trivial
      exact ⟨_, _, run_endRound (some .ret) hO3, φ3, _, _, _, rfl, j1, .bool false, n1, hall.trans n2⟩
  exact hround

theorem compCall_sound (hfl : ¬ good fl) (hp : PrimsOk good pr P) {rec : Rec β} (hrec : RunOk good P rec) {c : Call} {tm : T Value} {a : Act} (hop : ∀ y ∈ c.operands.toList, VR φ (evv tm y) (a.eval y))
    (hr : HR P φ h w) {κ : Value → Heap → β} (hg : good (compCall fl pr P c rec tm h κ)) {o : Oper} (ho : o.op = .call c) : OpTo good P φ h w κ ((execOp a.eval o).run P w) := by
  obtain ⟨callee, args, ts⟩ := c
  have hargs : F2 (VR φ) (args.toList.map (evv tm)) (args.toList.map a.eval) := F2.map _ fun y hy => hop y (by simp [Call.operands] at hy ⊢; exact .inr hy)
  cases callee with
  | builtin b => exact absurd hg hfl
  | value x =>
    have gen : good (evs tm args.toList fun args => ev tm x fun fv => callV fl pr P rec fv args h κ) → OpTo good P φ h w κ ((execOp a.eval o).run P w) := by
      intro hg
      rw [evs_eq, ev_eq] at hg
      have hxv : VR φ (evv tm x) (a.eval x) := hop x (by simp [Call.operands])
      unfold callV at hg
      split at hg <;> try exact absurd hg hfl
      rotate_left
      · rename_i l first cap hv
        split at hg <;> try exact absurd hg hfl
        rw [hv] at hxv
        generalize hz : a.eval x = z at hxv
        cases hxv with
        | yield hp =>
          have := roundB_sound hfl hrec hp hargs hr hg
          have he : (args.toList.map a.eval).toArray = args.map a.eval := by apply Array.ext'; simp
          rw [he] at this
          simpa [execOp, ho, resolve, hz, Deferred.ofValue, invoke] using this
      rename_i f first cap hv
      rw [hv] at hxv
      generalize hz : a.eval x = z at hxv
      cases hxv with
      | func fn a1 a1' b1 b1' ha hb hva hvb =>
        have hall := ((F2.toList ha hva).append hargs).append (F2.toList hb hvb)
        refine OpTo.call (callF_sound hfl hp hrec hall hr hg) ?_
        have he : (a1'.toList ++ args.toList.map a.eval ++ b1'.toList).toArray = a1' ++ args.map a.eval ++ b1' := by apply Array.ext'; simp
        rw [he]
        simp [execOp, ho, resolve, hz, Deferred.ofValue, invoke]
    cases x with
    | func f =>
      simp only [compCall, evs_eq] at hg
      refine OpTo.call (callF_sound hfl hp hrec hargs hr hg) ?_
      have he : (args.toList.map a.eval).toArray = args.map a.eval := by apply Array.ext'; simp
      rw [he]
      simp [execOp, ho, resolve, Act.eval, Deferred.ofValue, invoke]
    | tmp t => exact gen hg
    | const v => exact gen hg
    | global g => exact gen hg
  | invoke r name =>
    simp only [compCall, evs_eq, ev_eq] at hg
    have hrv : VR φ (evv tm r) (a.eval r) := hop r (by simp [Call.operands])
    unfold callI at hg
    split at hg <;> try exact absurd hg hfl
    rename_i t v hv
    have e0 : ∀ (v' : Value), a.eval r = .iface t v' → (execOp a.eval o).run P w = (callMethod (.iface t v') name (args.map a.eval)).run P w := by
      intro v' hz
      have hx : (#[Value.iface t v'] ++ args.map a.eval).extract 1 (#[Value.iface t v'] ++ args.map a.eval).size = args.map a.eval := by
        apply Array.ext'; simp; exact List.take_of_length_le (by simp)
      rw [← hx]
      have h0 : (#[Value.iface t v'] ++ args.map a.eval)[0]? = some (.iface t v') := by
        rw [Array.getElem?_append_left (by simp)]; rfl
      simp [execOp, ho, resolve, hz, invoke, h0]
    have he : ∀ v' : Value, (v' :: args.toList.map a.eval).toArray = #[v'] ++ args.map a.eval := fun v' => by apply Array.ext'; simp
    rw [hv] at hrv
    generalize hz : a.eval r = z at hrv
    cases hrv with
    | iface _ hvv =>
      rename_i v'
      split at hg
      · rename_i f hm
        refine OpTo.call (callF_sound hfl hp hrec (F2.cons hvv hargs) hr hg) ?_
        have := methodB_sound (P := P) (w := w) hm v'
        rw [e0 v' hz, he]
        simp only [callMethod]
        simp
        rw [this]
        simp
      · split at hg
        rotate_left
        · split at hg <;> try exact absurd hg hfl
          rename_i f ty hm
          have hag : aggT P ty = some false := by
            unfold methodQ at hm
            split at hm <;> try contradiction
            split at hm <;> try contradiction
            split at hm <;> try contradiction
            rename_i hag
            cases hm
            exact hag
          obtain ⟨ad, rfl⟩ := load1_ptr hfl hg hvv
          obtain ⟨v2, v2', g1, g2, g3⟩ := load1_sound hfl hag hg hvv hr
          rw [run_loadAt_ptr] at g3
          have hmm := methodQ_sound (P := P) (w := w) (ad := ad) hm g3
          refine OpTo.call (callF_sound hfl hp hrec (F2.cons g2 hargs) hr g1) ?_
          rw [e0 _ hz, he]
          simp only [callMethod]
          simp
          rw [hmm]
          simp
        rename_i f off ty hm
        unfold fieldAddrB at hg
        split at hg <;> try exact absurd hg hfl
        rename_i b ob
        rw [fnK_eq] at hg
        cases hvv with
        | ptr hpp =>
          rename_i pl
          have hag : aggT P ty = some false := by
            unfold methodP at hm
            split at hm <;> try contradiction
            split at hm <;> try contradiction
            split at hm <;> try contradiction
            split at hm <;> try contradiction
            split at hm <;> try contradiction
            split at hm <;> try contradiction
            rename_i hag _ _
            cases hm
            exact hag
          obtain ⟨v2, v2', g1, g2, g3⟩ := load1_sound hfl hag hg (VR.ptr hpp) hr
          rw [run_loadAt_ptr, show (⟨pl.B, ob.add off, none⟩ : Addr) = (⟨pl.B, ob, none⟩ : Addr).add off from (by simp [Addr.add])] at g3
          have hmm := (methodP_sound (P := P) (w := w) (ad := ⟨pl.B, ob, none⟩) hm g3).2
          refine OpTo.call (callF_sound hfl hp hrec (F2.cons g2 hargs) hr g1) ?_
          rw [e0 _ hz, he]
          simp only [callMethod]
          simp
          rw [hmm]
          simp

end Go.Vai
