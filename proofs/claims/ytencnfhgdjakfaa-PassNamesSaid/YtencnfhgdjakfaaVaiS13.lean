/-
  PROVED HERE: a part of an interpreter for the model's code, and that it is sound.
  The interpreter is sound, part 13: operations one after the other; code.
-/
import Derived.Test.YtencnfhgdjakfaaVaiS12
set_option linter.unusedVariables false
set_option linter.unusedSimpArgs false
namespace Go.Vai
open Go
variable {β : Type} {fl : β} {good : β → Prop} {pr : Prims β} {P : Program} {φ : Emb} {h : Heap} {w : World} {t : TypeId}

theorem compF_sound (hfl : ¬ good fl) (hp : PrimsOk good pr P) {rec : Rec β} (hrec : RunOk good P rec) {op : Op} {tm : T Value} {a : Act} (hρ : ∀ y ∈ op.operands.toList, VR φ (evv tm y) (a.eval y))
    (hr : HR P φ h w) {κ : Value → Heap → β} (hg : good (compF fl pr P op rec tm h κ)) {o : Oper} (ho : o.op = op) : OpTo good P φ h w κ ((execOp a.eval o).run P w) := by
  unfold compF at hg
  cases hR : compR fl P op with
  | some i =>
    rw [hR] at hg
    obtain ⟨v, v', g1, g2, g3⟩ := compR_sound hfl hR hρ hr hg ho
    exact .inl ⟨φ, v, v', h, w, .value v', g1, g2, hr, Ext.refl _ _ _, g3, .inl rfl⟩
  | none =>
    cases hA : compA fl P op with
    | some i =>
      simp only [hR, hA] at hg
      obtain ⟨ob, mk, O, g1, g2, g3, g4, g5⟩ := compA_sound (P := P) (w := w) (good := good) hfl hA hρ hg ho
      obtain ⟨k1, k2⟩ := newBlock_good hfl g1
      obtain ⟨m1, m2⟩ := hr.fresh k1 0 0 (g3 _) g2
      exact .inl ⟨_, _, _, _, _, .value _, k2, g4 _ _ _ (addPl_same _ _ _), m1, m2, g5, .inl rfl⟩
    | none =>
      cases hW : compW fl P op with
      | some i =>
        simp only [hR, hA, hW] at hg
        exact .inl (compW_sound hfl hW hρ hr hg ho)
      | none =>
        simp only [hR, hA, hW] at hg
        cases op with
        | call c => exact compCall_sound hfl hp hrec hρ hr hg ho
        | _ => exact absurd hg hfl

theorem VR.bool_of {v v' : Value} {b : Bool} (hv : VR φ v v') : (v = .bool b ↔ v' = .bool b) := by
  constructor
  · rintro rfl; cases hv; rfl
  · rintro rfl; cases hv; rfl

theorem wanted_eq {ops : Array Oper} {o : Oper} {g : Option (Nat × Bool)} (hg : guardOf ops.toList o = some g) {tm : T Value} {a : Act}
    (ht : ∀ s w, g = some (s, w) → s ∈ looksOf ops.toList o → s < a.tmps.size ∧ VR φ (tmv tm s) (a.tmps.getD s undef)) :
    Region.wanted o (yielded ops a.tmps) = wantB tm g := by
  unfold guardOf at hg
  unfold Region.wanted
  split at hg
  · rename_i hgu
    cases hg
    rw [hgu]
    rfl
  · rename_i j w hgu
    rw [hgu]
    split at hg <;> try contradiction
    rename_i d _ _ _ _ _ hq
    cases hg
    have hlk : d ∈ looksOf ops.toList o := by
      simp [looksOf, hgu, Array.getElem?_toList] at hq ⊢
      rw [hq]; simp
    obtain ⟨hlt, hr⟩ := ht d w rfl hlk
    rw [Array.getElem?_toList] at hq
    have hq' := hq
    obtain ⟨v', hv'⟩ : ∃ v', a.tmps[d]? = some v' := ⟨_, getElem?_pos a.tmps d hlt⟩
    rw [Array.getD_eq_getD_getElem?, hv', Option.getD_some] at hr
    simp only [yielded, hq', Option.bind_some, hv', wantB]
    generalize tmv tm d = v at hr
    cases hr <;> cases w <;> first | rfl | (rename_i b; cases b <;> rfl)

theorem looks_lt {ops : Array Oper} {nt : Nat} (hok : ∀ q ∈ ops.toList, operOk nt q = true) {o : Oper} (ho : o ∈ ops.toList) {s : Nat} (hs : s ∈ looksOf ops.toList o) : s < nt := by
  simp only [looksOf, List.mem_append, List.mem_filterMap] at hs
  rcases hs with ⟨y, hy, hys⟩ | hs
  · have := operOk_opn (hok o ho) y hy
    cases y <;> simp at hys
    subst hys
    exact lt_of_ble this
  · split at hs
    · rename_i g w hg
      cases hq : ops.toList[g]? with
      | none => rw [hq] at hs; simp at hs
      | some q =>
        rw [hq] at hs
        simp at hs
        have := operOk_dst (hok q (List.mem_of_getElem? hq))
        rw [hs] at this
        exact lt_of_ble this
    · cases hs

theorem runOps_sound (hfl : ¬ good fl) (hp : PrimsOk good pr P) {rec : Rec β} (hrec : RunOk good P rec) {ops : Array Oper} {nt : Nat} (hok : ∀ q ∈ ops.toList, operOk nt q = true) {κ : T Value → Heap → β}
    {Q : Exit → Act → World → Prop} {ds : List Deferred} {φ0 : Emb} {h0 : Heap} {w0 : World}
    (hQ : ∀ tm' h' φ' a' w', good (κ tm' h') → TR φ' nt tm' a' → HR P φ' h' w' → Ext φ0 φ' h0 h' w0 w' → a'.defers = ds → Q .normal a' w') :
    ∀ (os : List Oper) (i : Nat) (φ : Emb) (tm : T Value) (h : Heap) (a : Act) (w : World), (∀ k, os[k]? = ops[i + k]?) → TR φ nt tm a → HR P φ h w → Ext φ0 φ h0 h w0 w → a.defers = ds →
      good (runOps fl pr P rec ops.toList os tm h κ) → wpOps P ops Q (List.range' i os.length) a w := by
  intro os
  induction os with
  | nil =>
    intro i φ tm h a w _ ht hr hx hd hg
    exact hQ tm h φ a w hg ht hr hx hd
  | cons o os ih =>
    intro i φ tm h a w hos ht hr hx hd hg
    have ho : ops[i]? = some o := by have := hos 0; simpa using this.symm
    have hos' : ∀ k, os[k]? = ops[i + 1 + k]? := fun k => by have := hos (k + 1); rw [show i + 1 + k = i + (k + 1) by omega]; simpa using this
    have hmem : o ∈ ops.toList := by
      have : ops.toList[i]? = some o := by simpa using ho
      exact List.mem_of_getElem? this
    have hoo := hok o hmem
    show wpOps P ops Q (i :: List.range' (i + 1) os.length) a w
    simp only [wpOps, ho]
    have hg' : good (XO.rec (motive := fun _ => β)
      (fun g d f => Bool.rec (motive := fun _ => β) (putK tm d undef h fun tm h => runOps fl pr P rec ops.toList os tm h κ)
        (f rec tm h fun v h => putK tm d v h fun tm h => runOps fl pr P rec ops.toList os tm h κ) (wantB tm g))
      (compO fl pr P ops.toList o)) := hg
    have put_defers : ∀ (d : Option Tmp) (v : Value), (a.put d v).defers = ds := fun d v => by cases d <;> exact hd
    cases hgo : guardOf ops.toList o with
    | none =>
      simp only [compO, hgo] at hg'
      exact absurd hg' hfl
    | some g =>
      simp only [compO, hgo] at hg'
      rw [wanted_eq (φ := φ) (tm := tm) hgo fun s w _ hs => ⟨by rw [ht.size]; exact looks_lt hok hmem hs, ht.rel s (looks_lt hok hmem hs)⟩]
      cases hw : wantB tm g with
      | false =>
        rw [hw] at hg'
        simp only [putK_eq] at hg'
        rw [if_neg (by simp)]
        exact ih (i + 1) φ _ h _ w hos' (ht.put (operOk_dst hoo) VR.undef) hr hx (put_defers _ _) hg'
      | true =>
        rw [hw] at hg'
        simp only [putK_eq] at hg'
        rw [if_pos rfl]
        refine .inl ((compF_sound hfl hp hrec (fun y hy => ht.eval (operOk_opn hoo y hy)) hr hg' rfl).upon ?_)
        intro φ' v v' h' w' g1 g2 g3 g4
        exact ih (i + 1) φ' _ h' _ w' hos' ((ht.mono g4.sub).put (operOk_dst hoo) g2) g3 (hx.trans g4) (put_defers _ _) g1

/-- regions that draw their order are right -/
def DrawOk (good : β → Prop) (fl : β) (pr : Prims β) (P : Program) : Prop :=
  ∀ (rec : Rec β), RunOk good P rec → ∀ (ops : Array Oper) (id nt : Nat), (∀ q ∈ ops.toList, operOk nt q = true) → ∀ (φ : Emb) (tm : T Value) (h : Heap) (a : Act) (w : World) (κ : T Value → Heap → β), TR φ nt tm a → HR P φ h w →
    good (runRegion fl pr P rec ops.toList true tm h κ) → ∀ Q : Exit → Act → World → Prop,
      (∀ tm' h' φ' a' w', good (κ tm' h') → TR φ' nt tm' a' → HR P φ' h' w' → Ext φ φ' h h' w w' → a'.defers = a.defers → Q .normal a' w') → (Code.region id ops true).wp P Q a w

/-- a loop, from a round's start on -/
def LoopAt (P : Program) (c : Code) (Q : Exit → Act → World → Prop) (a : Act) (w : World) : Prop :=
  ∀ (b : Frame) (k : List Item) (cs : List Frame), ∃ e a' w', Q e a' w' ∧ Arrives P (lone (b.at a (.code c :: .inLoop c :: k)) cs w) b k cs e a' w'

theorem LoopAt.wp {c : Code} {Q : Exit → Act → World → Prop} {a : Act} {w : World} (h : LoopAt P c Q a w) : (Code.loop c).wp P Q a w :=
  fun b k cs => let ⟨e, a', w', q, r⟩ := h b k cs; ⟨e, a', w', q, .of_steps (.one step_loop) r⟩
theorem LoopAt.mono {c : Code} {Q Q' : Exit → Act → World → Prop} {a : Act} {w : World} (h : LoopAt P c Q a w) (hq : ∀ e a w, Q e a w → Q' e a w) : LoopAt P c Q' a w :=
  fun b k cs => let ⟨e, a', w', q, r⟩ := h b k cs; ⟨e, a', w', hq _ _ _ q, r⟩
theorem LoopAt.round {c : Code} {Q : Exit → Act → World → Prop} {a : Act} {w : World} (h : c.wp P (Exit.then (LoopAt P c Q) Q) a w) : LoopAt P c Q a w := by
  intro b k cs
  obtain ⟨e, a₁, w₁, hq, harr⟩ := h b (.inLoop c :: k) cs
  cases e with
  | normal =>
    obtain ⟨e₂, a₂, w₂, hq₂, harr₂⟩ := hq b k cs
    exact ⟨e₂, a₂, w₂, hq₂, .of_steps (Steps.trans harr (.one step_inLoop)) harr₂⟩
  | exit id => exact ⟨_, a₁, w₁, hq, .pass (x := .inLoop c) rfl (fun _ _ => .inl (by simp)) harr⟩
  | goto l => exact ⟨_, a₁, w₁, hq, .pass (x := .inLoop c) rfl (fun _ _ => .inl (by simp)) harr⟩
  | ret => exact ⟨_, a₁, w₁, hq, .pass (x := .inLoop c) rfl (fun _ _ => .inl (by simp)) harr⟩
  | panic ch => exact ⟨_, a₁, w₁, hq, .pass (x := .inLoop c) rfl (fun _ _ => .inl (by simp)) harr⟩
  | outgrown => exact ⟨_, a₁, w₁, hq, .pass (x := .inLoop c) rfl (fun _ _ => .inl (by simp)) harr⟩

def RunLoopOk (good : β → Prop) (P : Program) (rec : Rec β) : Prop :=
  ∀ (c : Code) (tm : T Value) (h : Heap) (κ : Ex → T Value → Heap → β) (φ : Emb) (w : World) (nt : Nat) (a : Act), codeOk nt c = true → TR φ nt tm a → HR P φ h w → good (rec (.loop c) tm h κ) →
    LoopAt P c (Post good P nt φ h w a.defers κ) a w

theorem bodyLoop_sound {rec : Rec β} (hrec : RunOk good P rec) (hloop : RunLoopOk good P rec) : RunLoopOk good P (body fl pr P rec) := by
  intro c tm h κ φ w nt a hc ht hr hg
  have hg' : good (rec c tm h (seqK rec (.loop c) κ)) := hg
  refine LoopAt.round (wp_mono (hrec c tm h _ φ w nt a hc ht hr hg') ?_)
  rintro e a' w' ⟨e0, tm', h', φ', rfl, g1, g2, g3, g4, g5⟩
  cases e0 with
  | normal =>
    refine (hloop c tm' h' κ φ' w' nt a' hc g2 g3 g1).mono ?_
    rintro e a2 w2 ⟨e1, tm2, h2, φ2, rfl, k1, k2, k3, k4, k5⟩
    exact ⟨e1, tm2, h2, φ2, rfl, k1, k2, k3, g4.trans k4, k5.trans g5⟩
  | exit i => exact ⟨.exit i, tm', h', φ', rfl, g1, g2, g3, g4, g5⟩
  | ret => exact ⟨.ret, tm', h', φ', rfl, g1, g2, g3, g4, g5⟩

theorem body_sound (hfl : ¬ good fl) (hp : PrimsOk good pr P) (hdr : DrawOk good fl pr P) {rec : Rec β} (hrec : RunOk good P rec) (hloop : RunLoopOk good P rec) : RunOk good P (body fl pr P rec) := by
  intro c tm h κ φ w nt a hc ht hr hg
  cases c with
  | skip => exact wp_skip ⟨.normal, tm, h, φ, rfl, hg, ht, hr, Ext.refl _ _ _, rfl⟩
  | label l => exact wp_label ⟨.normal, tm, h, φ, rfl, hg, ht, hr, Ext.refl _ _ _, rfl⟩
  | ret => exact wp_ret ⟨.ret, tm, h, φ, rfl, hg, ht, hr, Ext.refl _ _ _, rfl⟩
  | exit id => exact wp_exit ⟨.exit id, tm, h, φ, rfl, hg, ht, hr, Ext.refl _ _ _, rfl⟩
  | region id os draw =>
    have hok : ∀ q ∈ os.toList, operOk nt q = true := by
      simp only [codeOk, List.all_eq_true] at hc; exact hc
    have hQ : ∀ tm' h' φ' a' w', good ((fun tm h => κ .normal tm h) tm' h') → TR φ' nt tm' a' → HR P φ' h' w' → Ext φ φ' h h' w w' → a'.defers = a.defers → Post good P nt φ h w a.defers κ .normal a' w' :=
      fun tm' h' φ' a' w' g1 g2 g3 g4 g5 => ⟨.normal, tm', h', φ', rfl, g1, g2, g3, g4, g5⟩
    cases draw with
    | false =>
      refine wp_region ?_
      rw [List.range_eq_range']
      have := runOps_sound hfl hp hrec hok hQ os.toList 0 φ tm h a w (fun k => by simp) ht hr (Ext.refl _ _ _) rfl hg
      simpa using this
    | true => exact hdr rec hrec os id nt hok φ tm h a w _ ht hr hg _ hQ
  | seq x y =>
    simp only [codeOk, Bool.and_eq_true] at hc
    have hg' : good (rec x tm h (seqK rec y κ)) := hg
    refine wp_seq (wp_mono (hrec x tm h _ φ w nt a hc.1 ht hr hg') ?_)
    rintro e a' w' ⟨e0, tm', h', φ', rfl, g1, g2, g3, g4, g5⟩
    cases e0 with
    | normal =>
      refine wp_mono (hrec y tm' h' κ φ' w' nt a' hc.2 g2 g3 g1) ?_
      rintro e a2 w2 ⟨e1, tm2, h2, φ2, rfl, k1, k2, k3, k4, k5⟩
      exact ⟨e1, tm2, h2, φ2, rfl, k1, k2, k3, g4.trans k4, k5.trans g5⟩
    | exit i => exact ⟨.exit i, tm', h', φ', rfl, g1, g2, g3, g4, g5⟩
    | ret => exact ⟨.ret, tm', h', φ', rfl, g1, g2, g3, g4, g5⟩
  | cond x c1 c2 =>
    simp only [codeOk, Bool.and_eq_true] at hc
    have hg' : good (ev tm x (condK fl rec c1 c2 tm h κ)) := hg
    rw [ev_eq] at hg'
    have hx := ht.eval hc.1.1
    unfold condK at hg'
    split at hg' <;> try exact absurd hg' hfl
    · rename_i hv
      rw [hv] at hx
      refine wp_cond_true (by generalize a.eval x = z at hx; cases hx; rfl) (hrec c1 tm h κ φ w nt a hc.1.2 ht hr hg')
    · rename_i hv
      rw [hv] at hx
      refine wp_cond_false (by generalize a.eval x = z at hx; cases hx; rfl) (hrec c2 tm h κ φ w nt a hc.2 ht hr hg')
  | block id c =>
    have hg' : good (rec c tm h (blockK id κ)) := hg
    refine wp_block (wp_mono (hrec c tm h _ φ w nt a hc ht hr hg') ?_)
    rintro e a' w' ⟨e0, tm', h', φ', rfl, g1, g2, g3, g4, g5⟩
    cases e0 with
    | normal => exact ⟨.normal, tm', h', φ', rfl, g1, g2, g3, g4, g5⟩
    | ret => exact ⟨.ret, tm', h', φ', rfl, g1, g2, g3, g4, g5⟩
    | exit i =>
      simp only [blockK] at g1
      simp only [exOf, Exit.inBlock]
      split at g1
      · rename_i hb; have hb := beq_t hb
        rw [if_pos hb]
        exact ⟨.normal, tm', h', φ', rfl, g1, g2, g3, g4, g5⟩
      · rename_i hb; have hb := beq_f hb
        rw [if_neg hb]
        exact ⟨.exit i, tm', h', φ', rfl, g1, g2, g3, g4, g5⟩
  | loop c =>
    exact (bodyLoop_sound (fl := fl) (pr := pr) hrec hloop c tm h κ φ w nt a hc ht hr hg).wp
  | _ => exact absurd hg hfl

theorem run_sound (hfl : ¬ good fl) (hp : PrimsOk good pr P) (hdr : DrawOk good fl pr P) : ∀ n, RunOk good P (run fl pr P n) ∧ RunLoopOk good P (run fl pr P n) := by
  intro n
  induction n with
  | zero => exact ⟨fun c tm h κ φ w nt a _ _ _ hg => absurd hg hfl, fun c tm h κ φ w nt a _ _ _ hg => absurd hg hfl⟩
  | succ n ih => exact ⟨body_sound hfl hp hdr ih.1 ih.2, bodyLoop_sound ih.1 ih.2⟩

end Go.Vai
