/-
  PROVED HERE: a part of an interpreter for the model's code, and that it is sound.
  The interpreter is sound, part 11: frames, results, methods, calls.
-/
import Derived.Test.YtphbjimlpemadaaVaiS10
import Derived.Test.YtphbjimlpemadaaVaiR
import Derived.OrdersIn
import Derived.RangeFuncRecord
set_option linter.unusedVariables false
set_option linter.unusedSimpArgs false
namespace Go.Vai
open Go
variable {β : Type} {fl : β} {good : β → Prop} {P : Program} {φ : Emb} {h : Heap} {w : World} {t : TypeId}

/-! ## frames -/
structure TR (φ : Emb) (nt : Nat) (tm : T Value) (a : Act) : Prop where
  size : a.tmps.size = nt
  small : nt ≤ 1000000000000
  rel : ∀ t, t < nt → VR φ (tmv tm t) (a.tmps.getD t undef)

theorem TR.mono {φ φ' : Emb} {nt : Nat} {tm : T Value} {a : Act} (hs : Sub φ φ') (ht : TR φ nt tm a) : TR φ' nt tm a := ⟨ht.size, ht.small, fun t hlt => (ht.rel t hlt).mono hs⟩

theorem lt_of_ble {a b : Nat} (h : Nat.ble (Nat.succ a) b = true) : a < b := ble_t h

theorem TR.eval {nt : Nat} {tm : T Value} {a : Act} (ht : TR φ nt tm a) {x : Operand} (hx : opnOk nt x = true) : VR φ (evv tm x) (a.eval x) := by
  cases x with
  | tmp t => exact ht.rel t (lt_of_ble hx)
  | const v => exact selfOk_VR hx
  | func f => exact VR.func' .nil .nil
  | global g => cases hx

noncomputable def putT (tm : T Value) (d : Option Nat) (v : Value) : T Value := match d with | some d => tm.upd d v | none => tm
theorem putK_eq (tm : T Value) (d : Option Nat) (v : Value) (h : Heap) (κ : T Value → Heap → β) : putK tm d v h κ = κ (putT tm d v) h := by
  cases d with
  | none => rfl
  | some d => show T.set tm d v (fun tm => κ tm h) = _; rw [T.set_eq]; rfl

def dstOk (nt : Nat) (d : Option Nat) : Bool := match d with | some d => Nat.ble (Nat.succ d) nt | none => true

theorem small_tmp {nt t : Nat} (hn : nt ≤ 1000000000000) (ht : t < nt) : Small t := by unfold Small; omega

theorem tmv_put {nt : Nat} {tm : T Value} {d : Option Nat} {v : Value} (hn : nt ≤ 1000000000000) (hd : dstOk nt d = true) {t : Nat} (ht : t < nt) : tmv (putT tm d v) t = if d = some t then v else tmv tm t := by
  cases d with
  | none => simp [putT]
  | some d =>
    have hd' := lt_of_ble hd
    simp only [putT, tmv]
    rw [T.get_upd tm v (small_tmp hn hd') (small_tmp hn ht)]
    by_cases he : d = t
    · simp [he]
    · simp [he]

theorem TR.put {nt : Nat} {tm : T Value} {a : Act} (ht : TR φ nt tm a) {d : Option Nat} (hd : dstOk nt d = true) {v v' : Value} (hv : VR φ v v') : TR φ nt (putT tm d v) (a.put d v') := by
  refine ⟨?_, ht.small, ?_⟩
  · cases d <;> simp [Act.put, ht.size]
  · intro t hlt
    rw [tmv_put ht.small hd hlt]
    have hr := ht.rel t hlt
    cases d with
    | none => simpa [Act.put] using hr
    | some d =>
      have hd' := lt_of_ble hd
      by_cases he : d = t
      · subst he
        have : d < a.tmps.size := by rw [ht.size]; exact hd'
        simpa [Act.put, Array.getD, this] using hv
      · have h1 : ¬ (some d = some t) := by simpa using he
        rw [if_neg h1]
        simp only [Array.getD_eq_getD_getElem?] at hr ⊢
        simp only [Act.put]
        rw [Array.getElem?_setIfInBounds_ne he]
        exact hr

theorem operOk_dst {nt : Nat} {o : Oper} (h : operOk nt o = true) : dstOk nt o.dst = true := by
  simp only [operOk, Bool.and_eq_true] at h
  exact h.2
theorem operOk_opn {nt : Nat} {o : Oper} (h : operOk nt o = true) : ∀ y ∈ o.op.operands.toList, opnOk nt y = true := by
  simp only [operOk, Bool.and_eq_true, List.all_eq_true] at h
  exact h.1
theorem TR.evals {nt : Nat} {tm : T Value} {a : Act} (ht : TR φ nt tm a) {xs : List Operand} (hx : ∀ y ∈ xs, opnOk nt y = true) : F2 (VR φ) (xs.map (evv tm)) (xs.map a.eval) :=
  F2.map xs fun y hy => ht.eval (hx y hy)

/-! ## what an operation may come to, a call included -/
/-- after a call -/
def CallTo (good : β → Prop) (P : Program) (φ : Emb) (h : Heap) (w : World) (κ : Value → Heap → β) (f : FuncId) (args : Array Value) : Prop :=
  (callFunc f args).run P w = .ok (.enter f args) w ∧
  Calls P f args w fun e w' => ∃ φ' v v' h', e = .returned v' ∧ good (κ v h') ∧ VR φ' v v' ∧ HR P φ' h' w' ∧ Ext φ φ' h h' w w'

/-- whatever function, whatever depth; in a round of a range over a function, or not -/
def FR (r : Option Nat) : Fence := { Fence.wide with round := r }
theorem callsFR {r : Option Nat} {n : Nat} {f : FuncId} {args : Array Value} {R : Ending → World → Prop} : CallsIn (FR r) n P f args w R ↔ Calls P f args w R := callsIn_wide (n := n)

/-- what a call or a round hands back -/
def Back (good : β → Prop) (P : Program) (φ : Emb) (h : Heap) (w : World) (κ : Value → Heap → β) (e : Ending) (w' : World) : Prop :=
  ∃ φ' v v' h', e = .returned v' ∧ good (κ v h') ∧ VR φ' v v' ∧ HR P φ' h' w' ∧ Ext φ φ' h h' w w'

/-- an operation comes to a value, or to nothing, or to a call that returns, or to a round -/
def OpTo (good : β → Prop) (P : Program) (φ : Emb) (h : Heap) (w : World) (κ : Value → Heap → β) (r : Result Next) : Prop :=
  WOut good P φ h w κ r ∨ (∃ f args, r = .ok (.enter f args) w ∧ Calls P f args w (Back good P φ h w κ)) ∨
  ∃ l f tmps as bd, r = .ok (.round l f tmps as bd) w ∧ ∀ r0 : Option Nat, RoundIn (FR r0) 0 P l f tmps as bd w (Back good P φ h w κ)

theorem OpTo.upon {κ : Value → Heap → β} {r : Result Next} (ho : OpTo good P φ h w κ r) {o : Oper} {a : Act} {next : Act → World → Prop} {Q : Exit → Act → World → Prop} {r0 : Option Nat}
    (hn : ∀ φ' v v' h' w', good (κ v h') → VR φ' v v' → HR P φ' h' w' → Ext φ φ' h h' w w' → next (a.put o.dst v') w') : o.uponIn (FR r0) 0 P a next Q r := by
  rcases ho with ⟨φ', v, v', h', w', nx, g1, g2, g3, g4, rfl, g6⟩ | ⟨f, args, rfl, hc⟩ | ⟨l, f, tmps, as, bd, rfl, hc⟩
  · rcases g6 with rfl | ⟨rfl, rfl⟩
    · exact hn φ' v v' h' w' g1 g2 g3 g4
    · exact hn φ' v undef h' w' g1 g2 g3 g4
  · refine ⟨fun hh => (by cases hh), callsFR.2 (Calls.mono hc ?_)⟩
    rintro e w' ⟨φ', v, v', h', rfl, g1, g2, g3, g4⟩
    exact hn φ' v v' h' w' g1 g2 g3 g4
  · refine ⟨fun hh => (by cases hh), (hc r0).mono ?_⟩
    rintro e w' ⟨φ', v, v', h', rfl, g1, g2, g3, g4⟩
    exact hn φ' v v' h' w' g1 g2 g3 g4

theorem about_all {r0 : Option Nat} {o : Oper} {ρ : Operand → Value} : ∀ f, o.about P w ρ = some f → (FR r0).fn f := fun _ _ => trivial

/-! ## results -/
def resM (tmps : Array Value) : ResultVar → Sem Value
  | .tmp t => pure (tmps.getD t undef)
  | .cell c t => do loadVar t (← asAddr (tmps.getD c undef))

theorem run_loadAt_ptr {t : TypeId} {ad : Addr} : (Instr.loadAt t (.pointer (some ad))).run P w = (loadVar t ad).run P w := by
  simp [Instr.loadAt, Instr.sureAddr]

theorem results_mapM {tmps : Array Value} {fn : Func} {vs : List Value} (hm : (fn.results.toList.mapM (resM tmps)).run P w = .ok vs w) :
    (results fn tmps).run P w = .ok (match vs with | [v] => v | vs => .tuple ⟨vs⟩) w := by
  have he : results fn tmps = (do let vs ← fn.results.mapM (resM tmps); pure (if h : vs.size = 1 then vs[0] else .tuple vs)) := by
    unfold results
    congr 1
  rw [he, Array.mapM_eq_mapM_toList]
  match vs, hm with
  | [], hm => simp [hm]
  | [v], hm => simp [hm]
  | v :: v2 :: vs, hm => simp [hm]

theorem load1_ptr (hfl : ¬ good fl) {a a' : Value} {κ : Value → Heap → β} (hg : good (load1 fl a h κ)) (hv : VR φ a a') : ∃ ad, a' = .pointer (some ad) := by
  unfold load1 at hg
  split at hg <;> try exact absurd hg hfl
  cases hv; exact ⟨_, rfl⟩
theorem loadA_ptr (hfl : ¬ good fl) {s : Nat} {a a' : Value} {κ : Value → Heap → β} (hg : good (loadA fl s a h κ)) (hv : VR φ a a') : ∃ ad, a' = .pointer (some ad) := by
  unfold loadA at hg
  split at hg <;> try exact absurd hg hfl
  cases hv; exact ⟨_, rfl⟩

theorem resultsB_sound (hfl : ¬ good fl) (hr : HR P φ h w) {nt : Nat} {tm : T Value} {a : Act} (ht : TR φ nt tm a) : ∀ (rs : List ResultVar) {κ : List Value → β}, rs.all (resOk nt) = true →
    good (resultsB fl h tm (rs.map (resOf P)) κ) → ∃ vs vs', good (κ vs) ∧ F2 (VR φ) vs vs' ∧ (rs.mapM (resM a.tmps)).run P w = .ok vs' w := by
  intro rs
  induction rs with
  | nil => intro κ _ hg; exact ⟨[], [], hg, .nil, by simp⟩
  | cons r rs ih =>
    intro κ hok hg
    simp only [List.all_cons, Bool.and_eq_true] at hok
    have fin : ∀ {v v' : Value}, (resM a.tmps r).run P w = .ok v' w → VR φ v v' → good (resultsB fl h tm (rs.map (resOf P)) fun vs => κ (v :: vs)) →
        ∃ vs vs', good (κ vs) ∧ F2 (VR φ) vs vs' ∧ ((r :: rs).mapM (resM a.tmps)).run P w = .ok vs' w := by
      intro v v' h1 h2 h3
      obtain ⟨vs, vs', g1, g2, g3⟩ := ih hok.2 h3
      exact ⟨_, v' :: vs', g1, .cons h2 g2, by simp [List.mapM_cons, g3, h1]⟩
    cases r with
    | tmp t =>
      simp only [List.map_cons, resOf, resultsB, ev_eq] at hg
      exact fin (by simp [resM]) (ht.rel t (lt_of_ble hok.1)) hg
    | cell c t =>
      have hc := ht.rel c (lt_of_ble hok.1)
      simp only [List.map_cons, resOf] at hg
      cases hx : aggT P t with
      | none => simp only [hx, resultsB] at hg; exact absurd hg hfl
      | some b =>
        cases hs : szOf P t with
        | none => cases b <;> simp only [hx, hs, resultsB] at hg <;> exact absurd hg hfl
        | some s =>
          cases b with
          | true =>
            simp only [hx, hs, resultsB, ev_eq] at hg
            obtain ⟨ad, had⟩ := loadA_ptr hfl hg hc
            obtain ⟨v, v', g1, g2, g3⟩ := loadA_sound hfl hx hs hg hc hr
            rw [had, run_loadAt_ptr] at g3
            exact fin (by simp only [resM, had]; simpa [asAddr] using g3) g2 g1
          | false =>
            simp only [hx, hs, resultsB, ev_eq] at hg
            obtain ⟨ad, had⟩ := load1_ptr hfl hg hc
            obtain ⟨v, v', g1, g2, g3⟩ := load1_sound hfl hx hg hc hr
            rw [had, run_loadAt_ptr] at g3
            exact fin (by simp only [resM, had]; simpa [asAddr] using g3) g2 g1

/-! ## methods -/
theorem methodB_sound {name : String} {f : FuncId} (hm : methodB P t name = some f) (v : Value) : (method (P.types.size + Made.depth) t v name).run P w = .ok (f, v) w := by
  unfold methodB at hm
  split at hm <;> try contradiction
  rename_i i d hi hd
  split at hm <;> try contradiction
  rename_i m hf
  obtain ⟨n, hn⟩ : ∃ n, P.types.size + Made.depth = n + 1 := ⟨P.types.size + Made.depth - 1, by
    have : 0 < Made.depth := by decide
    omega⟩
  rw [hn]
  unfold method
  cases hp : m.path.isEmpty with
  | false => simp [hp] at hm
  | true =>
    have hpl : m.path.toList = [] := by simpa using hp
    cases hfun : m.func with
    | none => simp [hp, hfun] at hm
    | some p =>
      obtain ⟨f', b⟩ := p
      have hw : f' = f ∧ ∀ wr, (receiverAt t (.val v) b (some wr)).run P w = .ok v w := by
        cases b with
        | true =>
          cases d <;> simp only [hp, hfun] at hm <;> try contradiction
          cases hm
          exact ⟨rfl, fun wr => by simp [receiverAt, run_und hd, Place.get]⟩
        | false =>
          cases d <;> simp only [hp, hfun] at hm <;> try contradiction
          all_goals (cases hm; exact ⟨rfl, fun wr => by simp [receiverAt, run_und hd, Place.get]⟩)
      obtain ⟨rfl, hw⟩ := hw
      have hpe : m.path = #[] := by simpa using hp
      simp [typeInfo, hi, hf, hpe, follow, hfun, hw]

theorem methodP_sound {name : String} {f : FuncId} {off : Nat} {ty : TypeId} (hm : methodP P t name = some (f, off, ty)) {ad : Addr} {v : Value} (hl : (loadVar ty (ad.add off)).run P w = .ok v w) :
    aggT P ty = some false ∧ (method (P.types.size + Made.depth) t (.pointer (some ad)) name).run P w = .ok (f, v) w := by
  unfold methodP at hm
  split at hm <;> try contradiction
  rename_i i hi
  split at hm <;> try contradiction
  rename_i m hf
  split at hm <;> try contradiction
  rename_i s f' hp hfun
  split at hm <;> try contradiction
  rename_i fs hd hs
  split at hm <;> try contradiction
  rename_i fld hfld
  split at hm <;> try contradiction
  rename_i e hag hsz hue
  cases hm
  refine ⟨hag, ?_⟩
  obtain ⟨n, hn⟩ : ∃ n, P.types.size + Made.depth = n + 1 := ⟨P.types.size + Made.depth - 1, by
    have : 0 < Made.depth := by decide
    omega⟩
  rw [hn]
  unfold method
  simp [typeInfo, hi, hf, hp, hfun, follow, run_und hs, hfld, hd, Place.get, asAddr, fieldPlace, run_size hsz, receiverAt, run_und hue, hl]

theorem methodQ_sound {name : String} {f : FuncId} {ty : TypeId} (hm : methodQ P t name = some (f, ty)) {ad : Addr} {v : Value} (hl : (loadVar ty ad).run P w = .ok v w) :
    (method (P.types.size + Made.depth) t (.pointer (some ad)) name).run P w = .ok (f, v) w := by
  unfold methodQ at hm
  split at hm <;> try contradiction
  rename_i i e hi hu
  split at hm <;> try contradiction
  rename_i m hf
  split at hm <;> try contradiction
  rename_i f' hp hfun hag
  cases hm
  obtain ⟨n, hn⟩ : ∃ n, P.types.size + Made.depth = n + 1 := ⟨P.types.size + Made.depth - 1, by
    have : 0 < Made.depth := by decide
    omega⟩
  rw [hn]
  unfold method
  have hpe : m.path = #[] := by simpa using hp
  have hw : ∀ a b : String, (Builtin.ssaWrapNilChk_ #[t] t #[.pointer (some ad), strVal a, strVal b]).run P w = .ok (.pointer (some ad)) w := fun _ _ => rfl
  simp [typeInfo, hi, hf, hpe, hfun, follow, Place.get, asAddr, receiverAt, run_und hu, hw, hl]

end Go.Vai
