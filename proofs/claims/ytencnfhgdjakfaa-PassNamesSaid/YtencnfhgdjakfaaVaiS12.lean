/-
  PROVED HERE: a part of an interpreter for the model's code, and that it is sound.
  The interpreter is sound, part 12: calls, operations, code.
-/
import Derived.Test.YtencnfhgdjakfaaVaiS11
set_option linter.unusedVariables false
set_option linter.unusedSimpArgs false
namespace Go.Vai
open Go
variable {β : Type} {fl : β} {good : β → Prop} {pr : Prims β} {P : Program} {φ : Emb} {h : Heap} {w : World} {t : TypeId}

def exOf : Ex → Exit
  | .normal => .normal
  | .exit i => .exit i
  | .ret => .ret

/-- where a piece of code may come to -/
def Post (good : β → Prop) (P : Program) (nt : Nat) (φ : Emb) (h : Heap) (w : World) (ds : List Deferred) (κ : Ex → T Value → Heap → β) (e : Exit) (a' : Act) (w' : World) : Prop :=
  ∃ x tm' h' φ', e = exOf x ∧ good (κ x tm' h') ∧ TR φ' nt tm' a' ∧ HR P φ' h' w' ∧ Ext φ φ' h h' w w' ∧ a'.defers = ds

def RunOk (good : β → Prop) (P : Program) (rec : Rec β) : Prop :=
  ∀ (c : Code) (tm : T Value) (h : Heap) (κ : Ex → T Value → Heap → β) (φ : Emb) (w : World) (nt : Nat) (a : Act), codeOk nt c = true → TR φ nt tm a → HR P φ h w → good (rec c tm h κ) →
    c.wp P (Post good P nt φ h w a.defers κ) a w

def PrimsOk (good : β → Prop) (pr : Prims β) (P : Program) : Prop :=
  ∀ f g, pr f = some g → ∀ (args args' : List Value) (h : Heap) (φ : Emb) (w : World) (κ : Value → Heap → β), F2 (VR φ) args args' → HR P φ h w → good (g args h κ) → CallTo good P φ h w κ f args'.toArray

theorem callOk_sound {f : FuncId} {c : Code} {rs : List XRes} {nt : Nat} (hc : callOk P f = .mk c rs nt) :
    ∃ fn, P.funcs[f]? = some fn ∧ fn.body = some c ∧ fn.ntmps = nt ∧ rs = fn.results.toList.map (resOf P) ∧ codeOk nt c = true ∧ fn.results.toList.all (resOk nt) = true ∧ nt ≤ 1000000000000 ∧
      ∀ (args : Array Value) (w : World), (callFunc f args).run P w = .ok (.enter f args) w := by
  unfold callOk at hc
  split at hc <;> try contradiction
  rename_i fn hf
  split at hc <;> try contradiction
  rename_i hn
  split at hc <;> try contradiction
  rename_i c' hb
  split at hc <;> try contradiction
  rename_i hok
  simp only [Bool.and_eq_true] at hok
  cases hc
  refine ⟨fn, hf, hb, rfl, rfl, hok.1.1, hok.1.2, ble_t hok.2, fun args w => ?_⟩
  have hn' : ¬ fn.name = "runtime.NumGoroutine" := by simpa using hn
  simp [callFunc, hf, hn', hb]

theorem layArgs_eq (vs : List Value) : ∀ (tm : T Value) (i : Nat) (κ : T Value → β), layArgs vs tm i κ = κ (lay vs tm i) := by
  induction vs with
  | nil => intro tm i κ; rfl
  | cons v vs ih =>
    intro tm i κ
    show T.set tm i v (fun tm => layArgs vs tm (Nat.succ i) κ) = _
    rw [T.set_eq, ih]
    rfl

theorem TR.start {args args' : List Value} {nt : Nat} (ha : F2 (VR φ) args args') (hn : nt ≤ 1000000000000) (hle : args.length ≤ nt) :
    TR φ nt (lay args .nil 0) { tmps := args'.toArray ++ Array.replicate (nt - args'.toArray.size) undef, defers := [] } := by
  have hlen := ha.length
  refine ⟨by simp [← hlen]; omega, hn, fun t ht => ?_⟩
  simp only [tmv]
  rw [get_lay args .nil 0 (by omega) t (by unfold Small; omega)]
  simp only [Array.getD_eq_getD_getElem?]
  by_cases hlt : t < args.length
  · rw [if_pos (by omega)]
    obtain ⟨v, hv⟩ : ∃ v, args[t]? = some v := ⟨args[t], by simp [hlt]⟩
    obtain ⟨v', e1, e2⟩ := ha.get t v hv
    rw [Array.getElem?_append_left (by simp; omega)]
    simpa [hv, e1] using e2
  · rw [if_neg (by omega), T.get_nil, Array.getElem?_append_right (by simp; omega), Array.getElem?_replicate]
    have hu : ((if t - args'.toArray.size < nt - args'.toArray.size then some undef else none : Option Value).getD undef) = undef := by split <;> rfl
    rw [hu]
    exact VR.undef

theorem F2.toList {a a' : Array Value} (h : a.toList.length = a'.toList.length) (hv : ∀ (i : Nat) (v v' : Value), a.toList[i]? = some v → a'.toList[i]? = some v' → VR φ v v') : F2 (VR φ) a.toList a'.toList :=
  F2.of_get h hv

theorem callF_sound (hfl : ¬ good fl) (hp : PrimsOk good pr P) {rec : Rec β} (hrec : RunOk good P rec) {f : FuncId} {args args' : List Value} (ha : F2 (VR φ) args args') (hr : HR P φ h w)
    {κ : Value → Heap → β} (hg : good (callF fl pr P rec f args h κ)) : CallTo good P φ h w κ f args'.toArray := by
  unfold callF at hg
  split at hg
  · rename_i g hg'
    exact hp f g hg' args args' h φ w κ ha hr hg
  · split at hg
    · exact absurd hg hfl
    · rename_i c rs nt hc
      obtain ⟨fn, hf, hb, rfl, rfl, hck, hrk, hnt, hcall⟩ := callOk_sound hc
      split at hg <;> try exact absurd hg hfl
      rename_i hle
      rw [layArgs_eq] at hg
      refine ⟨hcall _ _, ?_⟩
      have hst := TR.start (nt := fn.ntmps) ha hnt (ble_t hle)
      refine calls_of_wp hf hb (wp_mono (hrec c _ h _ φ w fn.ntmps _ hck hst hr hg) ?_)
      rintro e a' w' ⟨x, tm', h', φ', rfl, g1, g2, g3, g4, g5⟩
      have fin : good (resultsB fl h' tm' (fn.results.toList.map (resOf P)) fun vs => oneOr κ h' vs) → a'.defers = [] ∧ ∃ v, (results fn a'.tmps).run P w' = .ok v w' ∧
          ∃ φ' v_1 v' h', Ending.returned v = .returned v' ∧ good (κ v_1 h') ∧ VR φ' v_1 v' ∧ HR P φ' h' w' ∧ Ext φ φ' h h' w w' := by
        intro k
        obtain ⟨vs, vs', k1, k2, k3⟩ := resultsB_sound hfl g3 g2 _ hrk k
        refine ⟨g5, _, results_mapM k3, ?_⟩
        cases k2 with
        | nil => exact ⟨φ', _, _, h', rfl, k1, VR.tuple' .nil, g3, g4⟩
        | cons hv hvs =>
          cases hvs with
          | nil => exact ⟨φ', _, _, h', rfl, k1, hv, g3, g4⟩
          | cons hv2 hvs => exact ⟨φ', _, _, h', rfl, k1, VR.tuple' (.cons hv (.cons hv2 hvs)), g3, g4⟩
      cases x with
      | normal => exact fin g1
      | exit i => exact absurd g1 hfl
      | ret => exact fin g1

theorem OpTo.call {κ : Value → Heap → β} {f : FuncId} {args : Array Value} (hc : CallTo good P φ h w κ f args) {s : Sem Next} (hs : s.run P w = (callFunc f args).run P w) : OpTo good P φ h w κ (s.run P w) :=
  .inr ⟨f, args, by rw [hs, hc.1], hc.2⟩

theorem compCall_sound (hfl : ¬ good fl) (hp : PrimsOk good pr P) {rec : Rec β} (hrec : RunOk good P rec) {c : Call} {tm : T Value} {a : Act} (hop : ∀ y ∈ c.operands.toList, VR φ (evv tm y) (a.eval y))
    (hr : HR P φ h w) {κ : Value → Heap → β} (hg : good (compCall fl pr P c rec tm h κ)) {o : Oper} (ho : o.op = .call c) : OpTo good P φ h w κ ((execOp a.eval o).run P w) := by
  obtain ⟨callee, args, ts⟩ := c
  have hargs : F2 (VR φ) (args.toList.map (evv tm)) (args.toList.map a.eval) := F2.map _ fun y hy => hop y (by simp [Call.operands] at hy ⊢; exact .inr hy)
  cases callee with
  | builtin b => exact absurd hg hfl
  | value x =>
    have gen : good (evs tm args.toList fun args => ev tm x fun fv => callV fl pr P rec fv args h κ) → OpTo good P φ h w κ ((execOp a.eval o).run P w) := by
      intro hg
      rw [evs_eq, ev_eq] at hg
      have hxv : VR φ (evv tm x) (a.eval x) := hop x (by simp [Call.operands])
      unfold callV at hg
      split at hg <;> try exact absurd hg hfl
      rename_i f first cap hv
      rw [hv] at hxv
      generalize hz : a.eval x = z at hxv
      cases hxv with
      | func fn a1 a1' b1 b1' ha hb hva hvb =>
        have hall := ((F2.toList ha hva).append hargs).append (F2.toList hb hvb)
        refine OpTo.call (callF_sound hfl hp hrec hall hr hg) ?_
        have he : (a1'.toList ++ args.toList.map a.eval ++ b1'.toList).toArray = a1' ++ args.map a.eval ++ b1' := by apply Array.ext'; simp
        rw [he]
        simp [execOp, ho, resolve, hz, Deferred.ofValue, invoke]
    cases x with
    | func f =>
      simp only [compCall, evs_eq] at hg
      refine OpTo.call (callF_sound hfl hp hrec hargs hr hg) ?_
      have he : (args.toList.map a.eval).toArray = args.map a.eval := by apply Array.ext'; simp
      rw [he]
      simp [execOp, ho, resolve, Act.eval, Deferred.ofValue, invoke]
    | tmp t => exact gen hg
    | const v => exact gen hg
    | global g => exact gen hg
  | invoke r name =>
    simp only [compCall, evs_eq, ev_eq] at hg
    have hrv : VR φ (evv tm r) (a.eval r) := hop r (by simp [Call.operands])
    unfold callI at hg
    split at hg <;> try exact absurd hg hfl
    rename_i t v hv
    split at hg <;> try exact absurd hg hfl
    rename_i f hm
    rw [hv] at hrv
    generalize hz : a.eval r = z at hrv
    cases hrv with
    | iface _ hvv =>
      rename_i v'
      refine OpTo.call (callF_sound hfl hp hrec (F2.cons hvv hargs) hr hg) ?_
      have := methodB_sound (P := P) (w := w) hm v'
      have he : (v' :: args.toList.map a.eval).toArray = #[v'] ++ args.map a.eval := by apply Array.ext'; simp
      rw [he]
      have hx : (#[Value.iface t v'] ++ args.map a.eval).extract 1 (#[Value.iface t v'] ++ args.map a.eval).size = args.map a.eval := by
        apply Array.ext'; simp; exact List.take_of_length_le (by simp)
      have e1 : (execOp a.eval o).run P w = (callMethod (.iface t v') name (args.map a.eval)).run P w := by
        rw [← hx]
        have h0 : (#[Value.iface t v'] ++ args.map a.eval)[0]? = some (.iface t v') := by
          rw [Array.getElem?_append_left (by simp)]; rfl
        simp [execOp, ho, resolve, hz, invoke, h0]
      rw [e1]
      simp only [callMethod]
      simp
      rw [this]
      simp

end Go.Vai
