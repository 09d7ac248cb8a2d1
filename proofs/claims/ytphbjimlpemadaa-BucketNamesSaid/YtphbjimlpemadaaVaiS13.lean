/-
  PROVED HERE: a part of an interpreter for the model's code, and that it is sound.
  The interpreter is sound, part 13: operations one after the other; code.
-/
import Derived.Test.YtphbjimlpemadaaVaiS12
set_option linter.unusedVariables false
set_option linter.unusedSimpArgs false
namespace Go.Vai
open Go
variable {β : Type} {fl : β} {good : β → Prop} {pr : Prims β} {P : Program} {φ : Emb} {h : Heap} {w : World} {t : TypeId}

theorem compF_sound (hfl : ¬ good fl) (hp : PrimsOk good pr P) {rec : Rec β} (hrec : RunOk good P rec) {op : Op} {tm : T Value} {a : Act} (hρ : ∀ y ∈ op.operands.toList, VR φ (evv tm y) (a.eval y))
    (hr : HR P φ h w) {κ : Value → Heap → β} (hg : good (compF fl pr P op rec tm h κ)) {o : Oper} (ho : o.op = op) : OpTo good P φ h w κ ((execOp a.eval o).run P w) := by
  unfold compF at hg
  cases hR : compR fl P op with
  | some i =>
    rw [hR] at hg
    obtain ⟨v, v', g1, g2, g3⟩ := compR_sound hfl hR hρ hr hg ho
    exact .inl ⟨φ, v, v', h, w, .value v', g1, g2, hr, Ext.refl _ _ _, g3, .inl rfl⟩
  | none =>
    cases hA : compA fl P op with
    | some i =>
      simp only [hR, hA] at hg
      obtain ⟨ob, mk, O, g1, g2, g3, g4, g5⟩ := compA_sound (P := P) (w := w) (good := good) hfl hA hρ hg ho
      obtain ⟨k1, k2⟩ := newBlock_good hfl g1
      obtain ⟨m1, m2⟩ := hr.fresh k1 0 0 (g3 _) g2
      exact .inl ⟨_, _, _, _, _, .value _, k2, g4 _ _ _ (addPl_same _ _ _), m1, m2, g5, .inl rfl⟩
    | none =>
      cases hW : compW fl P op with
      | some i =>
        simp only [hR, hA, hW] at hg
        exact .inl (compW_sound hfl hW hρ hr hg ho)
      | none =>
        simp only [hR, hA, hW] at hg
        cases op with
        | call c => exact compCall_sound hfl hp hrec hρ hr hg ho
        | next it s =>
          cases s with
          | true => exact absurd hg hfl
          | false =>
            simp only [ev_eq] at hg
            obtain ⟨v, v', h', w', g1, g2, g3, g4, g5⟩ := nextB_sound (ty := o.type) hfl hp.both hr hg (hρ it (by simp [Op.operands]))
            exact .inl ⟨φ, v, v', h', w', .value v', g1, g2, g3, g4, by simp only [execOp, ho]; exact run_valued g5, .inl rfl⟩
        | _ => exact absurd hg hfl

theorem compF_defer (hfl : ¬ good fl) {rec : Rec β} {op : Op} {tm : T Value} {κ : Value → Heap → β} (hg : good (compF fl pr P op rec tm h κ)) : ∀ c, op ≠ .defer c := by
  rintro c rfl
  exact hfl hg

theorem compF_wp (hfl : ¬ good fl) (hp : PrimsOk good pr P) {rec : Rec β} (hrec : RunOk good P rec) {o : Oper} {tm : T Value} {a : Act} (hρ : ∀ y ∈ o.op.operands.toList, VR φ (evv tm y) (a.eval y))
    (hr : HR P φ h w) {κ : Value → Heap → β} (hg : good (compF fl pr P o.op rec tm h κ)) {next : Act → World → Prop} {Q : Exit → Act → World → Prop} {r0 : Option Nat}
    (hn : ∀ φ' v v' h' w', good (κ v h') → VR φ' v v' → HR P φ' h' w' → Ext φ φ' h h' w w' → next (a.put o.dst v') w') : o.wpIn (FR r0) 0 P a w next Q := by
  refine ⟨about_all, ?_⟩
  rw [Oper.semAt_eq _ _ _ (compF_defer hfl hg)]
  exact (compF_sound hfl hp hrec hρ hr hg rfl).upon hn

theorem VR.bool_of {v v' : Value} {b : Bool} (hv : VR φ v v') : (v = .bool b ↔ v' = .bool b) := by
  constructor
  · rintro rfl; cases hv; rfl
  · rintro rfl; cases hv; rfl

theorem wanted_eq {ops : Array Oper} {o : Oper} {g : Option (Nat × Bool)} (hg : guardOf ops.toList o = some g) {tm : T Value} {a : Act}
    (ht : ∀ s w, g = some (s, w) → s ∈ looksOf ops.toList o → s < a.tmps.size ∧ VR φ (tmv tm s) (a.tmps.getD s undef)) :
    Region.wanted o (yielded ops a.tmps) = wantB tm g := by
  unfold guardOf at hg
  unfold Region.wanted
  split at hg
  · rename_i hgu
    cases hg
    rw [hgu]
    rfl
  · rename_i j w hgu
    rw [hgu]
    split at hg <;> try contradiction
    rename_i d _ _ _ _ _ hq
    cases hg
    have hlk : d ∈ looksOf ops.toList o := by
      simp [looksOf, hgu, Array.getElem?_toList] at hq ⊢
      rw [hq]; simp
    obtain ⟨hlt, hr⟩ := ht d w rfl hlk
    rw [Array.getElem?_toList] at hq
    have hq' := hq
    obtain ⟨v', hv'⟩ : ∃ v', a.tmps[d]? = some v' := ⟨_, getElem?_pos a.tmps d hlt⟩
    rw [Array.getD_eq_getD_getElem?, hv', Option.getD_some] at hr
    simp only [yielded, hq', Option.bind_some, hv', wantB]
    generalize tmv tm d = v at hr
    cases hr <;> cases w <;> first | rfl | (rename_i b; cases b <;> rfl)

theorem looks_lt {ops : Array Oper} {nt : Nat} (hok : ∀ q ∈ ops.toList, operOk nt q = true) {o : Oper} (ho : o ∈ ops.toList) {s : Nat} (hs : s ∈ looksOf ops.toList o) : s < nt := by
  simp only [looksOf, List.mem_append, List.mem_filterMap] at hs
  rcases hs with ⟨y, hy, hys⟩ | hs
  · have := operOk_opn (hok o ho) y hy
    cases y <;> simp at hys
    subst hys
    exact lt_of_ble this
  · split at hs
    · rename_i g w hg
      cases hq : ops.toList[g]? with
      | none => rw [hq] at hs; simp at hs
      | some q =>
        rw [hq] at hs
        simp at hs
        have := operOk_dst (hok q (List.mem_of_getElem? hq))
        rw [hs] at this
        exact lt_of_ble this
    · cases hs

theorem runOps_sound (hfl : ¬ good fl) (hp : PrimsOk good pr P) {rec : Rec β} (hrec : RunOk good P rec) {ops : Array Oper} {nt : Nat} (hok : ∀ q ∈ ops.toList, operOk nt q = true) {κ : T Value → Heap → β}
    {r0 : Option Nat} {Q : Exit → Act → World → Prop} {ds : List Deferred} {φ0 : Emb} {h0 : Heap} {w0 : World}
    (hQ : ∀ tm' h' φ' a' w', good (κ tm' h') → TR φ' nt tm' a' → HR P φ' h' w' → Ext φ0 φ' h0 h' w0 w' → a'.defers = ds → Q .normal a' w') :
    ∀ (os : List Oper) (i : Nat) (φ : Emb) (tm : T Value) (h : Heap) (a : Act) (w : World), (∀ k, os[k]? = ops[i + k]?) → TR φ nt tm a → HR P φ h w → Ext φ0 φ h0 h w0 w → a.defers = ds →
      good (runOps fl pr P rec ops.toList os tm h κ) → wpOpsIn (FR r0) 0 P ops Q (List.range' i os.length) a w := by
  intro os
  induction os with
  | nil =>
    intro i φ tm h a w _ ht hr hx hd hg
    exact hQ tm h φ a w hg ht hr hx hd
  | cons o os ih =>
    intro i φ tm h a w hos ht hr hx hd hg
    have ho : ops[i]? = some o := by have := hos 0; simpa using this.symm
    have hos' : ∀ k, os[k]? = ops[i + 1 + k]? := fun k => by have := hos (k + 1); rw [show i + 1 + k = i + (k + 1) by omega]; simpa using this
    have hmem : o ∈ ops.toList := by
      have : ops.toList[i]? = some o := by simpa using ho
      exact List.mem_of_getElem? this
    have hoo := hok o hmem
    show wpOpsIn (FR r0) 0 P ops Q (i :: List.range' (i + 1) os.length) a w
    simp only [wpOpsIn, ho]
    have hg' : good (XO.rec (motive := fun _ => β)
      (fun g d f => Bool.rec (motive := fun _ => β) (putK tm d undef h fun tm h => runOps fl pr P rec ops.toList os tm h κ)
        (f rec tm h fun v h => putK tm d v h fun tm h => runOps fl pr P rec ops.toList os tm h κ) (wantB tm g))
      (compO fl pr P ops.toList o)) := hg
    have put_defers : ∀ (d : Option Tmp) (v : Value), (a.put d v).defers = ds := fun d v => by cases d <;> exact hd
    cases hgo : guardOf ops.toList o with
    | none =>
      simp only [compO, hgo] at hg'
      exact absurd hg' hfl
    | some g =>
      simp only [compO, hgo] at hg'
      rw [wanted_eq (φ := φ) (tm := tm) hgo fun s w _ hs => ⟨by rw [ht.size]; exact looks_lt hok hmem hs, ht.rel s (looks_lt hok hmem hs)⟩]
      cases hw : wantB tm g with
      | false =>
        rw [hw] at hg'
        simp only [putK_eq] at hg'
        rw [if_neg (by simp)]
        refine ⟨about_all, ?_⟩
        exact ih (i + 1) φ _ h _ w hos' (ht.put (operOk_dst hoo) VR.undef) hr hx (put_defers _ _) hg'
      | true =>
        rw [hw] at hg'
        simp only [putK_eq] at hg'
        rw [if_pos rfl]
        refine compF_wp hfl hp hrec (fun y hy => ht.eval (operOk_opn hoo y hy)) hr hg' ?_
        intro φ' v v' h' w' g1 g2 g3 g4
        exact ih (i + 1) φ' _ h' _ w' hos' ((ht.mono g4.sub).put (operOk_dst hoo) g2) g3 (hx.trans g4) (put_defers _ _) g1

/-- regions that draw their order are right -/
def DrawOk (good : β → Prop) (fl : β) (pr : Prims β) (P : Program) : Prop :=
  ∀ (rec : Rec β), RunOk good P rec → ∀ (ops : Array Oper) (id nt : Nat), (∀ q ∈ ops.toList, operOk nt q = true) → ∀ (φ : Emb) (tm : T Value) (h : Heap) (a : Act) (w : World) (κ : T Value → Heap → β), TR φ nt tm a → HR P φ h w →
    good (runRegion fl pr P rec ops.toList true tm h κ) → ∀ (r0 : Option Nat) (Q : Exit → Act → World → Prop),
      (∀ tm' h' φ' a' w', good (κ tm' h') → TR φ' nt tm' a' → HR P φ' h' w' → Ext φ φ' h h' w w' → a'.defers = a.defers → Q .normal a' w') → (Code.region id ops true).wpIn (FR r0) 0 P Q a w

/-- a loop, from a round's start on -/
def LoopAt (r : Option Nat) (P : Program) (c : Code) (Q : Exit → Act → World → Prop) (a : Act) (w : World) : Prop :=
  ∀ (b : Frame) (k : List Item) (cs : List Frame), b.roundOf = r → (FR r).room (cs.length + 1 + 0) →
    ∃ e a' w', Q e a' w' ∧ ArrivesIn (Machine.fenced P (FR r)) P (lone (b.atR a (.code c :: .inLoop c :: k)) cs w) b k cs e a' w'

variable {ro : Option Nat}
theorem LoopAt.wp {c : Code} {Q : Exit → Act → World → Prop} {a : Act} {w : World} (h : LoopAt ro P c Q a w) : (Code.loop c).wpIn (FR ro) 0 P Q a w :=
  fun b k cs hro hb hr => let ⟨e, a', w', q, r⟩ := h b k cs hro hr; ⟨e, a', w', q, .of_steps (.one (fenced_calm hb hr rfl) stepR_loop) r⟩
theorem LoopAt.mono {c : Code} {Q Q' : Exit → Act → World → Prop} {a : Act} {w : World} (h : LoopAt ro P c Q a w) (hq : ∀ e a w, Q e a w → Q' e a w) : LoopAt ro P c Q' a w :=
  fun b k cs hro hr => let ⟨e, a', w', q, r⟩ := h b k cs hro hr; ⟨e, a', w', hq _ _ _ q, r⟩
theorem LoopAt.round {c : Code} {Q : Exit → Act → World → Prop} {a : Act} {w : World} (h : c.wpIn (FR ro) 0 P (Exit.then (LoopAt ro P c Q) Q) a w) : LoopAt ro P c Q a w := by
  intro b k cs hro hr
  have hb : (FR ro).fn b.fn := trivial
  obtain ⟨e, a₁, w₁, hq, harr⟩ := h b (.inLoop c :: k) cs hro hb hr
  cases e with
  | normal =>
    obtain ⟨e₂, a₂, w₂, hq₂, harr₂⟩ := hq b k cs hro hr
    exact ⟨e₂, a₂, w₂, hq₂, .of_steps (StepsIn.trans harr (.one (fenced_calm hb hr rfl) stepR_inLoop)) harr₂⟩
  | exit id => exact ⟨_, a₁, w₁, hq, .pass (x := .inLoop c) rfl (fun _ _ => .inl (by simp)) harr⟩
  | goto l => exact ⟨_, a₁, w₁, hq, .pass (x := .inLoop c) rfl (fun _ _ => .inl (by simp)) harr⟩
  | ret => exact ⟨_, a₁, w₁, hq, .pass (x := .inLoop c) rfl (fun _ _ => .inl (by simp)) harr⟩
  | panic ch => exact ⟨_, a₁, w₁, hq, .pass (x := .inLoop c) rfl (fun _ _ => .inl (by simp)) harr⟩
  | outgrown => exact ⟨_, a₁, w₁, hq, .pass (x := .inLoop c) rfl (fun _ _ => .inl (by simp)) harr⟩

/-- one piece behind another -/
theorem Post.after {nt : Nat} {φ1 : Emb} {h1 : Heap} {w1 : World} {a1 : Act} {ds ms : List Deferred} {κ : Ex → T Value → Heap → β} {e : Exit} {a2 : Act} {w2 : World} (hx : Ext φ φ1 h h1 w w1) (hd : a1.defers = ms ++ ds)
    (hm : Marks w.heap.size φ1 w1 w1.heap.size ms) (hp : Post good P nt φ1 h1 w1 a1.defers κ e a2 w2) : Post good P nt φ h w ds κ e a2 w2 := by
  obtain ⟨x, tm, h2, φ2, rfl, k1, k2, k3, k4, ms2, k5, k6⟩ := hp
  refine ⟨x, tm, h2, φ2, rfl, k1, k2, k3, hx.trans k4, ms2 ++ ms, by rw [k5, hd, List.append_assoc], ?_⟩
  exact (hm.mono k4 (Nat.le_refl _)).append hx.size (Nat.le_refl _) k4.size k6

theorem Post.here {nt : Nat} {tm : T Value} {a : Act} {κ : Ex → T Value → Heap → β} {x : Ex} (ht : TR φ nt tm a) (hr : HR P φ h w) (hg : good (κ x tm h)) : Post good P nt φ h w a.defers κ (exOf x) a w :=
  ⟨x, tm, h, φ, rfl, hg, ht, hr, Ext.refl _ _ _, [], rfl, trivial⟩

def RunLoopOk (good : β → Prop) (P : Program) (rec : Rec β) : Prop :=
  ∀ (c : Code) (r : Option Nat) (tm : T Value) (h : Heap) (κ : Ex → T Value → Heap → β) (φ : Emb) (w : World) (nt : Nat) (a : Act), (r = none ∨ noRf c = true) → codeOk nt c = true → TR φ nt tm a → HR P φ h w → good (rec (.loop c) tm h κ) →
    LoopAt r P c (Post good P nt φ h w a.defers κ) a w

theorem bodyLoop_sound {rec : Rec β} (hrec : RunOk good P rec) (hloop : RunLoopOk good P rec) : RunLoopOk good P (body fl pr P rec) := by
  intro c r tm h κ φ w nt a hn hc ht hr hg
  have hg' : good (rec c tm h (seqK rec (.loop c) κ)) := hg
  refine LoopAt.round (wpIn_mono (hrec c r tm h _ φ w nt a hn hc ht hr hg') ?_)
  rintro e a' w' ⟨e0, tm', h', φ', rfl, g1, g2, g3, g4, ms, g5, g6⟩
  cases e0 with
  | normal => exact (hloop c r tm' h' κ φ' w' nt a' hn hc g2 g3 g1).mono fun e a2 w2 hp => Post.after g4 g5 g6 hp
  | exit i => exact ⟨.exit i, tm', h', φ', rfl, g1, g2, g3, g4, ms, g5, g6⟩
  | ret => exact ⟨.ret, tm', h', φ', rfl, g1, g2, g3, g4, ms, g5, g6⟩

theorem noRf_or {r : Option Nat} {x y z : Code} (hn : r = none ∨ noRf z = true) (hz : noRf z = (noRf x && noRf y)) : (r = none ∨ noRf x = true) ∧ (r = none ∨ noRf y = true) := by
  rcases hn with hn | hn
  · exact ⟨.inl hn, .inl hn⟩
  · rw [hz, Bool.and_eq_true] at hn; exact ⟨.inr hn.1, .inr hn.2⟩

theorem stepR_scope {b : Frame} {a : Act} {k : List Item} {cs : List Frame} {w : World} {c : Code} :
    step P (lone (b.atR a (.code (.scope c) :: k)) cs w) = .next (lone (b.atR a (.code c :: .inScope c :: k)) cs w) :=
  step_lone_go (by simp [stepG, stepG.exec, Frame.atR])
theorem stepR_inScope {b : Frame} {a : Act} {k : List Item} {cs : List Frame} {w : World} {c : Code} : step P (lone (b.atR a (.inScope c :: k)) cs w) = .next (lone (b.atR a k) cs w) :=
  step_lone_go (by simp [stepG, stepG.exec, Frame.atR])

/-- a scope in which nothing jumps -/
theorem wpIn_scope {F : Fence} {n : Nat} {c : Code} {Q : Exit → Act → World → Prop} {a : Act} {w : World} (h : c.wpIn F n P Q a w) (hg : ∀ l a w, ¬ Q (.goto l) a w) : (Code.scope c).wpIn F n P Q a w := by
  intro b k cs hro hb hr
  have h0 : (lone (b.atR a (.code (.scope c) :: k)) cs w).fenced P F := fenced_calm hb hr rfl
  obtain ⟨e, a₁, w₁, hq, harr⟩ := h b (.inScope c :: k) cs hro hb hr
  cases e with
  | normal => exact ⟨.normal, a₁, w₁, hq, .head h0 stepR_scope (StepsIn.trans harr (.one (fenced_calm hb hr rfl) stepR_inScope))⟩
  | exit id =>
    have hx : exitTo id (.inScope c :: k) = exitTo id k := by simp [exitTo]
    exact ⟨_, a₁, w₁, hq, fun k' hk => .head h0 stepR_scope (harr.1 k' (by rw [hx]; exact hk)),
      fun hr' hk => let ⟨k₁, h1, h2⟩ := harr.2 hr' (by rw [hx]; exact hk); ⟨k₁, h1, .head h0 stepR_scope h2⟩⟩
  | goto l => exact absurd hq (hg l a₁ w₁)
  | ret => exact ⟨_, a₁, w₁, hq, .of_steps (.one h0 stepR_scope) harr⟩
  | panic ch => exact ⟨_, a₁, w₁, hq, .of_steps (.one h0 stepR_scope) harr⟩
  | outgrown => exact ⟨_, a₁, w₁, hq, .of_steps (.one h0 stepR_scope) harr⟩

/-- a range over a function -/
theorem rangeFuncB_sound (hfl : ¬ good fl) (hp : PrimsOk good pr P) {rec : Rec β} (hrec : RunOk good P rec) {g : Operand} {ps : Array Tmp} {x y : Code} {nt : Nat} {tm : T Value} {a : Act} (hc : codeOk nt (.rangeFunc g ps x y) = true) (ht : TR φ nt tm a) (hr : HR P φ h w)
    {κ : Ex → T Value → Heap → β} (hg : good (rangeFuncB fl pr P rec ps.toList x y tm h κ (evv tm g))) : (Code.rangeFunc g ps x y).wpIn (FR none) 0 P (Post good P nt φ h w a.defers κ) a w := by
  simp only [codeOk, Bool.and_eq_true] at hc
  obtain ⟨⟨⟨⟨⟨hcg, hcp⟩, hca⟩, hcb⟩, hra⟩, hrb⟩ := hc
  have hgv := ht.eval hcg
  unfold rangeFuncB at hg
  split at hg <;> try exact absurd hg hfl
  rename_i f first cap hv
  obtain ⟨hn, hg⟩ := newBlock_good hfl hg
  rw [hv] at hgv
  generalize hz : a.eval g = z at hgv
  cases hgv with
  | func fn a1 a1' b1 b1' ha hb hva hvb =>
    refine wpIn_rangeFunc fun fn0 _ => ?_
    -- two blocks
    have hx0 : Ext φ φ h h w (w.alloc (.deferred (some []))) := by
      refine ⟨Sub.refl φ, fun b pl e e' => (by rw [e] at e'; cases e'), Nat.le_refl _, by simp, fun B hB _ => alloc_get_lt hB, fun _ _ _ => rfl, rfl, rfl, rfl, fun B hB => ?_, rfl, fun _ _ => rfl⟩
      rcases Nat.lt_trichotomy B w.heap.size with hl | hl | hl
      · rw [alloc_get_lt hl]; exact hB
      · subst hl; rw [alloc_get_new]; trivial
      · have : (w.alloc (.deferred (some []))).heap[B]? = none := by show (w.heap.push _)[B]? = _; simp; omega
        rw [this]; trivial
    have hr0 : HR P φ h (w.alloc (.deferred (some []))) :=
      ⟨fun b o pl h1 h2 => by rw [alloc_get_lt (hr.dom b pl h2).2]; exact hr.obj b o pl h1 h2, fun b pl h1 => ⟨(hr.dom b pl h1).1, by have := (hr.dom b pl h1).2; simp; omega⟩, hr.keys, hr.nxs, hr.inj, hr.lo⟩
    have hOR : OR P φ (.loop .ready none tm ps.toList x y) ⟨(w.alloc (.deferred (some []))).heap.size, 0, 0⟩ (some (.loop { state := .ready, pending := none, fn := fn0, tmps := a.tmps, params := ps, assign := x, body := y, defers := w.heap.size })) :=
      ⟨rfl, trivial, rfl, rfl, rfl, nt, ⟨ht.small, hcp, hca, hcb, hra, hrb⟩, ht.size, ht.rel⟩
    obtain ⟨hr1, hx1⟩ := hr0.fresh hn 0 0 hOR trivial
    have hx01 := hx0.trans hx1
    have hl : (addPl φ h.nx ⟨(w.alloc (.deferred (some []))).heap.size, 0, 0⟩) h.nx = some ⟨(w.alloc (.deferred (some []))).heap.size, 0, 0⟩ := addPl_same _ _ _
    have hmk : ∀ b pl, φ b = some pl → pl.B ≠ w.heap.size := fun b pl hb => by have := (hr.dom b pl hb).2; omega
    have hD0 : (w.alloc (.deferred (some []))).heap[w.heap.size]? = some (.deferred (some [])) := alloc_get_new
    have hD1 := hx1.frC w.heap.size (by simp) hmk
    have hmk1 := hx1.notin (D := w.heap.size) (by simp) hmk
    have hargs := (((F2.toList ha hva).imp fun _ _ r => r.mono hx1.sub).append (.cons (VR.yield hl) .nil)).append ((F2.toList hb hvb).imp fun _ _ r => r.mono hx1.sub)
    have hcall := callF_sound hfl hp hrec hargs hr1 hg
    have hM1 : Marks w.heap.size (addPl φ h.nx ⟨(w.alloc (.deferred (some []))).heap.size, 0, 0⟩) ((w.alloc (.deferred (some []))).alloc (.loop { state := .ready, pending := none, fn := fn0, tmps := a.tmps, params := ps, assign := x, body := y, defers := w.heap.size }))
        ((w.alloc (.deferred (some []))).alloc (.loop { state := .ready, pending := none, fn := fn0, tmps := a.tmps, params := ps, assign := x, body := y, defers := w.heap.size })).heap.size [{ target := .collected w.heap.size, args := #[] }] :=
      ⟨w.heap.size, rfl, Nat.le_refl _, by simp; omega, hD1.trans hD0, hmk1, trivial⟩
    have hsz : (w.alloc (.deferred (some []))).heap.size = w.heap.size + 1 := by simp
    rw [hsz] at hcall hl hx1 hx01 hM1
    refine ⟨w.heap.size + 1, [{ target := .collected w.heap.size, args := #[] }], (w.alloc (.deferred (some []))).alloc (.loop { state := .ready, pending := none, fn := fn0, tmps := a.tmps, params := ps, assign := x, body := y, defers := w.heap.size }),
      { target := .fn (.func f) b1', args := a1' ++ #[.func (.yield (w.heap.size + 1)) #[] #[]] }, ((w.alloc (.deferred (some []))).alloc (.loop { state := .ready, pending := none, fn := fn0, tmps := a.tmps, params := ps, assign := x, body := y, defers := w.heap.size })), f, _, ((w.alloc (.deferred (some []))).alloc (.loop { state := .ready, pending := none, fn := fn0, tmps := a.tmps, params := ps, assign := x, body := y, defers := w.heap.size })), run_enterLoop_outer _ _ _ _ _, ?_, fun _ _ => trivial, ?_, fun hh => (by cases hh), callsFR.2 (Calls.mono hcall.2 ?_)⟩
    · have hcst : ∀ v, a.eval (.const v) = v := fun _ => rfl
      simp [resolve, hz, Deferred.ofValue, hcst]
    · have := hcall.1
      have he : (a1'.toList ++ [Value.func (.yield (w.heap.size + 1)) #[] #[]] ++ b1'.toList).toArray = a1' ++ #[.func (.yield (w.heap.size + 1)) #[] #[]] ++ b1' := by apply Array.ext'; simp
      rw [he] at this ⊢
      simpa [invoke] using this
    · rintro e w2 ⟨φ2, v, v', h2, rfl, g1, g2, g3, g4⟩
      unfold afterLoopK at g1
      split at g1 <;> try exact absurd g1 hfl
      rename_i st pend tm2 ps2 x2 y2 hb2
      have hp2 := g4.sub _ _ hl
      obtain ⟨r2, hO2, q1, q2, q3, q4, q5, q6⟩ := g3.loopAt hb2 hp2
      split at g1
      · exact absurd g1 hfl
      rename_i hst
      obtain ⟨hlo2, g1⟩ := setBlock_good hfl g1
      obtain ⟨n1, n2⟩ := g3.loopSet (st' := .exhausted) (pend' := pend) hlo2 hb2 hp2 hO2 (pd := r2.pending) q2
      have hend := run_endLoop (P := P) hO2 (by rw [q1]; exact hst)
      have hx12 := g4.trans n2
      have hM2 := hM1.mono hx12 (Nat.le_refl _)
      have hxall := hx01.trans hx12
      have htt : TR φ2 nt tm { a with defers := [{ target := .collected w.heap.size, args := #[] }] ++ a.defers } := ⟨ht.size, ht.small, fun t hlt => (ht.rel t hlt).mono hxall.sub⟩
      have hms := hM2.le (U' := (w2.putObj (w.heap.size + 1) (.loop { r2 with state := .exhausted, pending := r2.pending })).heap.size) (by have := g4.size; simp at this ⊢; omega)
      refine ⟨r2.pending, _, hend, ?_⟩
      cases pend with
      | none =>
        have hpd : r2.pending = none := by
          cases hq : r2.pending with
          | none => rfl
          | some c => rw [hq] at q2; exact q2.elim
        rw [hpd] at n1 hxall hms ⊢
        exact ⟨.normal, tm, _, φ2, rfl, g1, htt, n1, hxall, _, rfl, hms⟩
      | some ex =>
        rcases PendR.jump q2 with ⟨rfl, hpd⟩ | ⟨i, rfl, hpd⟩
        · rw [hpd] at n1 hxall hms ⊢
          exact wpIn_ret ⟨.ret, tm, _, φ2, rfl, g1, htt, n1, hxall, _, rfl, hms⟩
        · rw [hpd] at n1 hxall hms ⊢
          exact wpIn_exit ⟨.exit i, tm, _, φ2, rfl, g1, htt, n1, hxall, _, rfl, hms⟩

theorem body_sound (hfl : ¬ good fl) (hp : PrimsOk good pr P) (hdr : DrawOk good fl pr P) {rec : Rec β} (hrec : RunOk good P rec) (hloop : RunLoopOk good P rec) : RunOk good P (body fl pr P rec) := by
  intro c r tm h κ φ w nt a hn hc ht hr hg
  cases c with
  | skip => exact wpIn_skip (Post.here (x := .normal) ht hr hg)
  | label l => exact wpIn_label (Post.here (x := .normal) ht hr hg)
  | ret => exact wpIn_ret (Post.here (x := .ret) ht hr hg)
  | exit id => exact wpIn_exit (Post.here (x := .exit id) ht hr hg)
  | region id os draw =>
    have hok : ∀ q ∈ os.toList, operOk nt q = true := by
      simp only [codeOk, List.all_eq_true] at hc; exact hc
    have hQ : ∀ tm' h' φ' a' w', good ((fun tm h => κ .normal tm h) tm' h') → TR φ' nt tm' a' → HR P φ' h' w' → Ext φ φ' h h' w w' → a'.defers = a.defers → Post good P nt φ h w a.defers κ .normal a' w' :=
      fun tm' h' φ' a' w' g1 g2 g3 g4 g5 => ⟨.normal, tm', h', φ', rfl, g1, g2, g3, g4, [], g5, trivial⟩
    cases draw with
    | false =>
      refine wpIn_region ?_
      rw [List.range_eq_range']
      have := runOps_sound (r0 := r) hfl hp hrec hok hQ os.toList 0 φ tm h a w (fun k => by simp) ht hr (Ext.refl _ _ _) rfl hg
      simpa using this
    | true => exact hdr rec hrec os id nt hok φ tm h a w _ ht hr hg r _ hQ
  | seq x y =>
    simp only [codeOk, Bool.and_eq_true] at hc
    obtain ⟨hn1, hn2⟩ := noRf_or (x := x) (y := y) hn rfl
    have hg' : good (rec x tm h (seqK rec y κ)) := hg
    refine wpIn_seq (wpIn_mono (hrec x r tm h _ φ w nt a hn1 hc.1 ht hr hg') ?_)
    rintro e a' w' ⟨e0, tm', h', φ', rfl, g1, g2, g3, g4, ms, g5, g6⟩
    cases e0 with
    | normal => exact wpIn_mono (hrec y r tm' h' κ φ' w' nt a' hn2 hc.2 g2 g3 g1) fun e a2 w2 hp => Post.after g4 g5 g6 hp
    | exit i => exact ⟨.exit i, tm', h', φ', rfl, g1, g2, g3, g4, ms, g5, g6⟩
    | ret => exact ⟨.ret, tm', h', φ', rfl, g1, g2, g3, g4, ms, g5, g6⟩
  | cond x c1 c2 =>
    simp only [codeOk, Bool.and_eq_true] at hc
    obtain ⟨hn1, hn2⟩ := noRf_or (x := c1) (y := c2) hn rfl
    have hg' : good (ev tm x (condK fl rec c1 c2 tm h κ)) := hg
    rw [ev_eq] at hg'
    have hx := ht.eval hc.1.1
    unfold condK at hg'
    split at hg' <;> try exact absurd hg' hfl
    · rename_i hv
      rw [hv] at hx
      refine wpIn_cond_true (by generalize a.eval x = z at hx; cases hx; rfl) (hrec c1 r tm h κ φ w nt a hn1 hc.1.2 ht hr hg')
    · rename_i hv
      rw [hv] at hx
      refine wpIn_cond_false (by generalize a.eval x = z at hx; cases hx; rfl) (hrec c2 r tm h κ φ w nt a hn2 hc.2 ht hr hg')
  | block id c =>
    have hg' : good (rec c tm h (blockK id κ)) := hg
    refine wpIn_block (wpIn_mono (hrec c r tm h _ φ w nt a hn hc ht hr hg') ?_)
    rintro e a' w' ⟨e0, tm', h', φ', rfl, g1, g2, g3, g4, ms, g5, g6⟩
    cases e0 with
    | normal => exact ⟨.normal, tm', h', φ', rfl, g1, g2, g3, g4, ms, g5, g6⟩
    | ret => exact ⟨.ret, tm', h', φ', rfl, g1, g2, g3, g4, ms, g5, g6⟩
    | exit i =>
      simp only [blockK] at g1
      simp only [exOf, Exit.inBlock]
      split at g1
      · rename_i hb; have hb := beq_t hb
        rw [if_pos hb]
        exact ⟨.normal, tm', h', φ', rfl, g1, g2, g3, g4, ms, g5, g6⟩
      · rename_i hb; have hb := beq_f hb
        rw [if_neg hb]
        exact ⟨.exit i, tm', h', φ', rfl, g1, g2, g3, g4, ms, g5, g6⟩
  | scope c =>
    refine wpIn_scope (hrec c r tm h κ φ w nt a hn hc ht hr hg) ?_
    rintro l a' w' ⟨x, tm', h', φ', hx, _⟩
    cases x <;> cases hx
  | loop c =>
    exact (bodyLoop_sound (fl := fl) (pr := pr) hrec hloop c r tm h κ φ w nt a hn hc ht hr hg).wp
  | rangeFunc g ps x y =>
    have hg' : good (ev tm g (rangeFuncB fl pr P rec ps.toList x y tm h κ)) := hg
    rw [ev_eq] at hg'
    rcases hn with rfl | hn
    · exact rangeFuncB_sound hfl hp hrec hc ht hr hg'
    · cases hn
  | _ => exact absurd hg hfl

theorem run_sound (hfl : ¬ good fl) (hp : PrimsOk good pr P) (hdr : DrawOk good fl pr P) : ∀ n, RunOk good P (run fl pr P n) ∧ RunLoopOk good P (run fl pr P n) := by
  intro n
  induction n with
  | zero => exact ⟨fun c r tm h κ φ w nt a _ _ _ _ hg => absurd hg hfl, fun c r tm h κ φ w nt a _ _ _ _ hg => absurd hg hfl⟩
  | succ n ih => exact ⟨body_sound hfl hp hdr ih.1 ih.2, bodyLoop_sound ih.1 ih.2⟩

end Go.Vai
