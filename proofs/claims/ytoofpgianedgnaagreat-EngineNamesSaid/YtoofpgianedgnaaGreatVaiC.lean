/-
  PROVED HERE: a part of an interpreter for the model's code, and that it is sound.
  The interpreter: a long run in pieces. A snapshot says what is remembered between two pieces; each piece is run by itself.
-/
import Derived.Test.YtoofpgianedgnaaGreatVaiP
set_option linter.unusedVariables false
set_option linter.unusedSimpArgs false
namespace Go.Vai
open Go
variable {β : Type} {fl : β} {good : β → Prop} {P : Program} {φ : Emb} {h : Heap} {w : World}

/-! ## snapshots -/
/-- what is remembered of a block -/
inductive MObj where
  | cells (cs : List Value) (e : TypeId) (op : Bool)
  | map (es : List MapEntry) (clock : Nat)
  | dead (n : Nat) (e : TypeId)

noncomputable def MObj.obj : MObj → AObj
  | .cells cs e op => .cells cs.length (lay cs .nil 0) e op
  | .map es clock => .map es clock
  | .dead n e => .dead n e

/-- the slots, the blocks, how far their numbers have come -/
structure Snap where
  nx : Nat
  tm : List Value
  bl : List (Nat × MObj)

noncomputable def mkT : List (Nat × MObj) → T AObj
  | [] => .nil
  | (b, o) :: l => (mkT l).upd b o.obj
noncomputable def Snap.tt (s : Snap) : T Value := lay s.tm .nil 0
noncomputable def Snap.hp (s : Snap) : Heap := ⟨s.nx, mkT s.bl, 0⟩

noncomputable def sameCells (c : T Value) : List Value → Nat → Bool
  | [], _ => true
  | v :: vs, i => match c.get i with
    | some v' => veq 8 v' v && sameCells c vs (Nat.succ i)
    | none => false
def sameEntries : List MapEntry → List MapEntry → Bool
  | [], [] => true
  | a :: l, b :: m => veq 8 a.key b.key && veq 8 a.val b.val && Nat.beq a.born b.born && sameEntries l m
  | _, _ => false
noncomputable def sameObj (o : Option AObj) (m : MObj) : Bool :=
  match o, m with
  | some (.cells n c e op), .cells cs e' op' => Nat.beq n cs.length && Nat.beq e e' && (op == op') && sameCells c cs 0
  | some (.map es clock), .map es' clock' => sameEntries es es' && Nat.beq clock clock'
  | some (.dead n e), .dead n' e' => Nat.beq n n' && Nat.beq e e'
  | _, _ => false
noncomputable def sameSlots (tm : T Value) : List Value → Nat → Bool
  | [], _ => true
  | v :: vs, i => veq 8 (tmv tm i) v && sameSlots tm vs (Nat.succ i)
noncomputable def Snap.ok (s : Snap) (nt : Nat) (tm : T Value) (h : Heap) : Bool :=
  Nat.ble h.nx s.nx && Nat.ble s.nx 1000000000000 && Nat.beq s.tm.length nt && sameSlots tm s.tm 0 && s.bl.all fun p => Nat.ble (Nat.succ p.1) h.nx && sameObj (h.bl.get p.1) p.2

theorem sameCells_get {c : T Value} : ∀ {cs : List Value} {i : Nat}, sameCells c cs i = true → ∀ j v, cs[j]? = some v → c.get (i + j) = some v := by
  intro cs
  induction cs with
  | nil => intro i _ j v hj; simp at hj
  | cons x cs ih =>
    intro i hs j v hj
    unfold sameCells at hs
    split at hs <;> try contradiction
    rename_i v' hv
    simp only [Bool.and_eq_true] at hs
    have hx := veq_eq 8 _ _ hs.1
    cases j with
    | zero => simp at hj; subst hj; rw [← hx]; simpa using hv
    | succ j => have := ih hs.2 j v (by simpa using hj); rw [show i + (j + 1) = Nat.succ i + j by omega]; exact this
theorem sameSlots_get {tm : T Value} : ∀ {l : List Value} {i : Nat}, sameSlots tm l i = true → ∀ j v, l[j]? = some v → tmv tm (i + j) = v := by
  intro l
  induction l with
  | nil => intro i _ j v hj; simp at hj
  | cons x l ih =>
    intro i hs j v hj
    simp only [sameSlots, Bool.and_eq_true] at hs
    have hx := veq_eq 8 _ _ hs.1
    cases j with
    | zero => simp at hj; subst hj; simpa using hx
    | succ j => have := ih hs.2 j v (by simpa using hj); rw [show i + (j + 1) = Nat.succ i + j by omega]; exact this
theorem sameEntries_eq : ∀ {l m : List MapEntry}, sameEntries l m = true → l = m := by
  intro l
  induction l with
  | nil => intro m hs; cases m <;> simp [sameEntries] at hs; rfl
  | cons a l ih =>
    intro m hs
    cases m with
    | nil => simp [sameEntries] at hs
    | cons b m =>
      simp only [sameEntries, Bool.and_eq_true] at hs
      obtain ⟨⟨⟨h1, h2⟩, h3⟩, h4⟩ := hs
      have h1 := veq_eq 8 _ _ h1; have h2 := veq_eq 8 _ _ h2; have h3 := beq_t h3
      rw [ih h4]
      cases a; cases b; simp_all

theorem get_mkT : ∀ {l : List (Nat × MObj)} {b : Nat} {o : AObj}, (∀ p ∈ l, Small p.1) → Small b → (mkT l).get b = some o → ∃ m, (b, m) ∈ l ∧ o = m.obj := by
  intro l
  induction l with
  | nil => intro b o _ _ hg; rw [mkT, T.get_nil] at hg; cases hg
  | cons p l ih =>
    intro b o hs hb hg
    obtain ⟨b', m⟩ := p
    rw [mkT, T.get_upd _ _ (hs (b', m) (by simp)) hb] at hg
    split at hg
    · rename_i he; subst he; cases hg; exact ⟨m, by simp, rfl⟩
    · obtain ⟨m', h1, h2⟩ := ih (fun p hp => hs p (by simp [hp])) hb hg
      exact ⟨m', by simp [h1], h2⟩

theorem sameObj_OR {o : Option AObj} {m : MObj} (hs : sameObj o m = true) : ∃ o', o = some o' ∧ (m.obj.live ↔ o'.live) ∧ ∀ {pl : Pl} {O : Option Obj}, OR P φ o' pl O → OR P φ m.obj pl O := by
  unfold sameObj at hs
  split at hs <;> try contradiction
  · rename_i n c e op cs e' op'
    simp only [Bool.and_eq_true] at hs
    obtain ⟨⟨⟨h1, h2⟩, h3⟩, h4⟩ := hs
    have h1 := beq_t h1; have h2 := beq_t h2; have h3 : op = op' := by simpa using h3
    subst h1; subst h2; subst h3
    refine ⟨_, rfl, ⟨fun _ => trivial, fun _ => trivial⟩, fun {pl O} hO => ?_⟩
    cases O with
    | none => exact hO.elim
    | some O =>
      cases O <;> simp only [MObj.obj, OR] at hO ⊢
      obtain ⟨g1, g2, g3, g4, g5, g6⟩ := hO
      refine ⟨g1, g2, g3, g4, g5, fun i v hg hi => ?_⟩
      rw [get_lay cs .nil 0 (by omega) i (by unfold Small; omega), if_pos (by omega)] at hg
      exact g6 i v (by have := sameCells_get h4 i v (by simpa using hg); simpa using this) hi
  · rename_i es clock es' clock'
    simp only [Bool.and_eq_true] at hs
    have h1 := sameEntries_eq hs.1; have h2 := beq_t hs.2
    subst h1; subst h2
    exact ⟨_, rfl, Iff.rfl, fun hO => hO⟩
  · rename_i n e n' e'
    simp only [Bool.and_eq_true] at hs
    have h1 := beq_t hs.1; have h2 := beq_t hs.2
    subst h1; subst h2
    exact ⟨_, rfl, Iff.rfl, fun hO => hO⟩

/-- what a piece may lean on -/
structure At (P : Program) (nt : Nat) (s : Snap) (w0 : World) (φ : Emb) (a : Act) (w : World) : Prop where
  hr : HR P φ s.hp w
  ht : TR φ nt s.tt a
  hx : Ext (fun _ => none) φ ⟨0, .nil, 0⟩ s.hp w0 w
  hm : Marks w0.heap.size φ w w.heap.size a.defers

/-- memory as a piece leaves it, as the snapshot has it -/
theorem Snap.take {s : Snap} {nt : Nat} {tm : T Value} {a : Act} {w0 : World} (hs : s.ok nt tm h = true) (hr : HR P φ h w) (ht : TR φ nt tm a) (hx : Ext (fun _ => none) φ ⟨0, .nil, 0⟩ h w0 w) (hm : Marks w0.heap.size φ w w.heap.size a.defers) : At P nt s w0 φ a w := by
  unfold Snap.ok at hs
  simp only [Bool.and_eq_true] at hs
  obtain ⟨⟨⟨⟨h1, h2⟩, h3⟩, h4⟩, h5⟩ := hs
  have h1 := ble_t h1; have h2 := ble_t h2; have h3 := beq_t h3
  rw [List.all_eq_true] at h5
  have hin : ∀ p ∈ s.bl, p.1 < h.nx ∧ ∃ o', h.bl.get p.1 = some o' ∧ (p.2.obj.live ↔ o'.live) ∧ ∀ {pl : Pl} {O : Option Obj}, OR P φ o' pl O → OR P φ p.2.obj pl O := by
    intro p hp
    have := h5 p hp
    simp only [Bool.and_eq_true] at this
    exact ⟨lt_of_ble this.1, sameObj_OR this.2⟩
  have hsm : ∀ p ∈ s.bl, Small p.1 := fun p hp => by have := (hin p hp).1; unfold Small; omega
  have hdom : ∀ b pl, φ b = some pl → Small b := fun b pl hb => by have := (hr.dom b pl hb).1; unfold Small; omega
  refine ⟨⟨?_, ?_, ?_, ?_, ?_, Nat.zero_le _⟩, ⟨ht.size, ht.small, ?_⟩, ⟨hx.sub, ?_, Nat.zero_le _, hx.size, hx.frC, ?_, hx.tape, hx.os, hx.output, hx.fz, rfl, ?_⟩, hm⟩
  · intro b o pl hb hp
    obtain ⟨m, k1, rfl⟩ := get_mkT hsm (hdom b pl hp) hb
    obtain ⟨_, o', e1, e2, e3⟩ := hin _ k1
    exact e3 (hr.obj b o' pl e1 hp)
  · intro b pl hp; have := hr.dom b pl hp; exact ⟨Nat.lt_of_lt_of_le this.1 h1, this.2⟩
  · intro b o hsb hb
    obtain ⟨m, k1, rfl⟩ := get_mkT hsm hsb hb
    have := (hin _ k1).1
    exact Nat.lt_of_lt_of_le this h1
  · show s.nx < 2 ^ 199; omega
  · intro b b' o o' pl pl' g1 g2 l1 l2 p1 p2 e
    obtain ⟨m, k1, rfl⟩ := get_mkT hsm (hdom b pl p1) g1
    obtain ⟨m', k1', rfl⟩ := get_mkT hsm (hdom b' pl' p2) g2
    obtain ⟨_, o1, e1, e2, e3⟩ := hin _ k1
    obtain ⟨_, o2, f1, f2, f3⟩ := hin _ k1'
    exact hr.inj b b' o1 o2 pl pl' e1 f1 (e2.1 l1) (f2.1 l2) p1 p2 e
  · intro t hlt
    have hv := ht.rel t hlt
    obtain ⟨v, hv2⟩ : ∃ v, s.tm[t]? = some v := ⟨s.tm[t]'(by omega), List.getElem?_eq_getElem (by omega)⟩
    have hq := sameSlots_get h4 t v hv2
    rw [Nat.zero_add] at hq
    rw [hq] at hv
    simp only [Snap.tt, tmv]
    have hnt := ht.small
    rw [get_lay s.tm .nil 0 (by omega) t (by unfold Small; omega), if_pos (by omega), Nat.sub_zero, hv2]
    exact hv
  · intro b pl _ hb; exact ⟨Nat.zero_le _, (hx.new b pl rfl hb).2⟩
  · intro b hb _; exact absurd hb (Nat.not_lt_zero _)
  · intro b hb; exact absurd hb (Nat.not_lt_zero _)

/-! ## pieces of code -/
/-- the pieces of a body, one behind the other -/
def parts : Code → List Code
  | .seq a b => parts a ++ parts b
  | c => [c]

def wpL (P : Program) : List Code → (Exit → Act → World → Prop) → Act → World → Prop
  | [], Q, a, w => Q .normal a w
  | c :: cs, Q, a, w => c.wpIn (FR none) 0 P (Exit.then (wpL P cs Q) Q) a w

theorem then_mono {K K' : Act → World → Prop} {Q Q' : Exit → Act → World → Prop} (hk : ∀ a w, K a w → K' a w) (hq : ∀ e a w, Q e a w → Q' e a w) : ∀ e a w, Exit.then K Q e a w → Exit.then K' Q' e a w := by
  intro e a w hh
  cases e <;> first | exact hk a w hh | exact hq _ a w hh
theorem wpL_mono : ∀ {cs : List Code} {Q Q' : Exit → Act → World → Prop} {a : Act} {w : World}, (∀ e a w, Q e a w → Q' e a w) → wpL P cs Q a w → wpL P cs Q' a w := by
  intro cs
  induction cs with
  | nil => intro Q Q' a w hq hh; exact hq _ _ _ hh
  | cons c cs ih => intro Q Q' a w hq hh; exact wpIn_mono hh (then_mono (fun a w => ih hq) hq)
theorem wpL_append : ∀ {l m : List Code} {Q : Exit → Act → World → Prop} {a : Act} {w : World}, wpL P l (Exit.then (wpL P m Q) Q) a w → wpL P (l ++ m) Q a w := by
  intro l
  induction l with
  | nil => intro m Q a w hh; exact hh
  | cons c l ih =>
    intro m Q a w hh
    refine wpIn_mono hh ?_
    intro e a w hq
    cases e <;> first | exact ih hq | exact hq
theorem wpL_split : ∀ {l m : List Code} {Q : Exit → Act → World → Prop} {a : Act} {w : World}, wpL P (l ++ m) Q a w → wpL P l (Exit.then (wpL P m Q) Q) a w := by
  intro l
  induction l with
  | nil => intro m Q a w hh; exact hh
  | cons c l ih =>
    intro m Q a w hh
    refine wpIn_mono hh ?_
    intro e a w hq
    cases e <;> first | exact ih hq | exact hq
theorem wp_one {c : Code} {Q : Exit → Act → World → Prop} {a : Act} {w : World} (hh : wpL P [c] Q a w) : c.wpIn (FR none) 0 P Q a w :=
  wpIn_mono hh fun e a w hq => by cases e <;> exact hq
theorem wp_parts : ∀ (c : Code) {Q : Exit → Act → World → Prop} {a : Act} {w : World}, wpL P (parts c) Q a w → c.wpIn (FR none) 0 P Q a w := by
  intro c
  induction c with
  | seq x y ihx ihy =>
    intro Q a w hh
    exact wpIn_seq (wpIn_mono (ihx (wpL_split hh)) (then_mono (fun a w => ihy) fun _ _ _ q => q))
  | _ => intro Q a w hh; exact wp_one hh

noncomputable def runL (rec : Rec β) : List Code → T Value → Heap → (Ex → T Value → Heap → β) → β
  | [], tm, h, κ => κ .normal tm h
  | c :: cs, tm, h, κ => rec c tm h fun e tm h => match e with
    | .normal => runL rec cs tm h κ
    | e => κ e tm h

theorem runL_sound {rec : Rec β} (hrec : RunOk good P rec) {nt : Nat} : ∀ {cs : List Code} {tm : T Value} {h : Heap} {κ : Ex → T Value → Heap → β} {φ : Emb} {w : World} {a : Act}, cs.all (codeOk nt) = true → TR φ nt tm a → HR P φ h w → good (runL rec cs tm h κ) →
    wpL P cs (Post good P nt φ h w a.defers κ) a w := by
  intro cs
  induction cs with
  | nil => intro tm h κ φ w a _ ht hr hg; exact Post.here (x := .normal) ht hr hg
  | cons c cs ih =>
    intro tm h κ φ w a hc ht hr hg
    simp only [List.all_cons, Bool.and_eq_true] at hc
    refine wpIn_mono (hrec c none tm h _ φ w nt a (.inl rfl) hc.1 ht hr hg) ?_
    rintro e a' w' ⟨x, tm', h', φ', rfl, g1, g2, g3, g4, ms, g5, g6⟩
    cases x with
    | normal => exact wpL_mono (fun e a w => Post.after g4 g5 g6) (ih hc.2 g2 g3 g1)
    | exit i => exact ⟨.exit i, tm', h', φ', rfl, g1, g2, g3, g4, ms, g5, g6⟩
    | ret => exact ⟨.ret, tm', h', φ', rfl, g1, g2, g3, g4, ms, g5, g6⟩

/-- from the snapshot on -/
def From (P : Program) (nt : Nat) (K : World → Act → World → Prop) (s : Snap) : Prop := ∀ w0 φ a w, At P nt s w0 φ a w → K w0 a w

variable {pr : Prims Bool} {nt fuel : Nat} {Q : World → Exit → Act → World → Prop}

theorem yes_not : ¬ yes false := by simp [yes]

/-- what a piece adds -/
theorem At.next {s s' : Snap} {w0 : World} {a a' : Act} {w' : World} {tm' : T Value} {h' : Heap} {φ' : Emb} (ha : At P nt s w0 φ a w) (hs : s'.ok nt tm' h' = true) (ht : TR φ' nt tm' a') (hr : HR P φ' h' w') (hx : Ext φ φ' s.hp h' w w')
    {ms : List Deferred} (hd : a'.defers = ms ++ a.defers) (hm : Marks w.heap.size φ' w' w'.heap.size ms) : At P nt s' w0 φ' a' w' := by
  refine s'.take hs hr ht (ha.hx.trans hx) ?_
  rw [hd]
  exact (ha.hm.mono hx (Nat.le_refl _)).append ha.hx.size (Nat.le_refl _) hx.size hm

noncomputable def segB (pr : Prims Bool) (P : Program) (fuel nt : Nat) (cs : List Code) (s s' : Snap) : Bool :=
  runL (run false pr P fuel) cs s.tt s.hp fun e tm h => match e with
    | .normal => s'.ok nt tm h
    | _ => false

theorem seg_codes (hm : P.follows .mixedOrders = true) (hp : PrimsOk yes pr P) {c : Code} {i j : Nat} (hij : i ≤ j) (hc : (parts c).all (codeOk nt) = true) {s s' : Snap}
    (hrun : segB pr P fuel nt (((parts c).drop i).take (j - i)) s s' = true) (next : From P nt (fun w0 => wpL P ((parts c).drop j) (Q w0)) s') : From P nt (fun w0 => wpL P ((parts c).drop i) (Q w0)) s := by
  intro w0 φ a w ha
  have hsp : (parts c).drop i = ((parts c).drop i).take (j - i) ++ (parts c).drop j := by
    have := (List.take_append_drop (j - i) ((parts c).drop i)).symm
    rw [List.drop_drop, show i + (j - i) = j by omega] at this
    exact this
  have hall : (((parts c).drop i).take (j - i)).all (codeOk nt) = true := by
    rw [List.all_eq_true] at hc ⊢
    exact fun x hx => hc x (List.mem_of_mem_drop (List.mem_of_mem_take hx))
  show wpL P ((parts c).drop i) (Q w0) a w
  rw [hsp]
  refine wpL_append (wpL_mono ?_ (runL_sound (good := yes) (run_sound yes_not hp (draw_sound yes_not hp hm) fuel).1 hall ha.ht ha.hr hrun))
  rintro e a' w' ⟨x, tm', h', φ', rfl, g1, g2, g3, g4, ms, g5, g6⟩
  cases x with
  | normal => exact next w0 φ' a' w' (ha.next g1 g2 g3 g4 g5 g6)
  | exit i => exact absurd g1 yes_not
  | ret => exact absurd g1 yes_not

/-! ## pieces of a region -/
/-- the operations of a piece that is a region -/
def regAt (c : Code) (i : Nat) : Array Oper := match (parts c)[i]? with
  | some (.region _ ops false) => ops
  | _ => #[]
def isReg (c : Code) (i : Nat) : Bool := match (parts c)[i]? with
  | some (.region _ _ false) => true
  | _ => false

theorem isReg_drop {c : Code} {i : Nat} (hr : isReg c i = true) : ∃ id, (parts c).drop i = .region id (regAt c i) false :: (parts c).drop (i + 1) := by
  unfold isReg at hr
  split at hr <;> try contradiction
  rename_i id ops hi
  refine ⟨id, ?_⟩
  have hlt : i < (parts c).length := (List.getElem?_eq_some_iff.1 hi).1
  rw [List.drop_eq_getElem_cons hlt]
  have he : (parts c)[i] = .region id ops false := by have := List.getElem?_eq_getElem hlt; rw [hi] at this; exact (Option.some.inj this).symm
  rw [he]
  simp [regAt, hi]

def wpO (P : Program) (ops : Array Oper) (rest : List Code) (Q : Exit → Act → World → Prop) (k : Nat) (a : Act) (w : World) : Prop :=
  wpOpsIn (FR none) 0 P ops (Exit.then (wpL P rest Q) Q) (List.range' k (ops.size - k)) a w

theorem reg_in {c : Code} {i : Nat} (hi : isReg c i = true) {s : Snap} (next : From P nt (fun w0 => wpO P (regAt c i) ((parts c).drop (i + 1)) (Q w0) 0) s) : From P nt (fun w0 => wpL P ((parts c).drop i) (Q w0)) s := by
  intro w0 φ a w ha
  obtain ⟨id, he⟩ := isReg_drop hi
  show wpL P ((parts c).drop i) (Q w0) a w
  rw [he]
  refine wpIn_region ?_
  rw [List.range_eq_range']
  have := next w0 φ a w ha
  exact this
theorem reg_out {ops : Array Oper} {rest : List Code} {k : Nat} (hk : Nat.ble ops.size k = true) {s : Snap} (next : From P nt (fun w0 => wpL P rest (Q w0)) s) : From P nt (fun w0 => wpO P ops rest (Q w0) k) s := by
  intro w0 φ a w ha
  have hk := ble_t hk
  show wpOpsIn (FR none) 0 P ops _ (List.range' k (ops.size - k)) a w
  rw [show ops.size - k = 0 by omega]
  exact next w0 φ a w ha

theorem runOps_then (hfl : ¬ good fl) {pr : Prims β} (hp : PrimsOk good pr P) {rec : Rec β} (hrec : RunOk good P rec) {ops : Array Oper} {nt : Nat} (hok : ∀ q ∈ ops.toList, operOk nt q = true) {κ : T Value → Heap → β}
    {r0 : Option Nat} {Q : Exit → Act → World → Prop} {ds : List Deferred} {φ0 : Emb} {h0 : Heap} {w0 : World} {rest : List Nat}
    (hQ : ∀ tm' h' φ' a' w', good (κ tm' h') → TR φ' nt tm' a' → HR P φ' h' w' → Ext φ0 φ' h0 h' w0 w' → a'.defers = ds → wpOpsIn (FR r0) 0 P ops Q rest a' w') :
    ∀ (os : List Oper) (i : Nat) (φ : Emb) (tm : T Value) (h : Heap) (a : Act) (w : World), (∀ k, k < os.length → os[k]? = ops[i + k]?) → TR φ nt tm a → HR P φ h w → Ext φ0 φ h0 h w0 w → a.defers = ds →
      good (runOps fl pr P rec ops.toList os tm h κ) → wpOpsIn (FR r0) 0 P ops Q (List.range' i os.length ++ rest) a w := by
  intro os
  induction os with
  | nil =>
    intro i φ tm h a w _ ht hr hx hd hg
    exact hQ tm h φ a w hg ht hr hx hd
  | cons o os ih =>
    intro i φ tm h a w hos ht hr hx hd hg
    have ho : ops[i]? = some o := by have := hos 0 (by simp); simpa using this.symm
    have hos' : ∀ k, k < os.length → os[k]? = ops[i + 1 + k]? := fun k hk => by have := hos (k + 1) (by simpa using hk); rw [show i + 1 + k = i + (k + 1) by omega]; simpa using this
    have hmem : o ∈ ops.toList := by
      have : ops.toList[i]? = some o := by simpa using ho
      exact List.mem_of_getElem? this
    have hoo := hok o hmem
    show wpOpsIn (FR r0) 0 P ops Q (i :: (List.range' (i + 1) os.length ++ rest)) a w
    simp only [wpOpsIn, ho]
    have hg' : good (XO.rec (motive := fun _ => β)
      (fun g d f => Bool.rec (motive := fun _ => β) (putK tm d undef h fun tm h => runOps fl pr P rec ops.toList os tm h κ)
        (f rec tm h fun v h => putK tm d v h fun tm h => runOps fl pr P rec ops.toList os tm h κ) (wantB tm g))
      (compO fl pr P ops.toList o)) := hg
    have put_defers : ∀ (d : Option Tmp) (v : Value), (a.put d v).defers = ds := fun d v => by cases d <;> exact hd
    cases hgo : guardOf ops.toList o with
    | none =>
      simp only [compO, hgo] at hg'
      exact absurd hg' hfl
    | some g =>
      simp only [compO, hgo] at hg'
      rw [wanted_eq (φ := φ) (tm := tm) hgo fun s w _ hs => ⟨by rw [ht.size]; exact looks_lt hok hmem hs, ht.rel s (looks_lt hok hmem hs)⟩]
      cases hw : wantB tm g with
      | false =>
        rw [hw] at hg'
        simp only [putK_eq] at hg'
        rw [if_neg (by simp)]
        refine ⟨about_all, ?_⟩
        exact ih (i + 1) φ _ h _ w hos' (ht.put (operOk_dst hoo) VR.undef) hr hx (put_defers _ _) hg'
      | true =>
        rw [hw] at hg'
        simp only [putK_eq] at hg'
        rw [if_pos rfl]
        refine compF_wp hfl hp hrec (fun y hy => ht.eval (operOk_opn hoo y hy)) hr hg' ?_
        intro φ' v v' h' w' g1 g2 g3 g4
        exact ih (i + 1) φ' _ h' _ w' hos' ((ht.mono g4.sub).put (operOk_dst hoo) g2) g3 (hx.trans g4) (put_defers _ _) g1

noncomputable def segO (pr : Prims Bool) (P : Program) (fuel nt : Nat) (ops : Array Oper) (k k' : Nat) (s s' : Snap) : Bool :=
  runOps false pr P (run false pr P fuel) ops.toList ((ops.toList.drop k).take (k' - k)) s.tt s.hp fun tm h => s'.ok nt tm h

theorem seg_ops (hm : P.follows .mixedOrders = true) (hp : PrimsOk yes pr P) {ops : Array Oper} (hok : ops.toList.all (operOk nt) = true) {rest : List Code} {k k' : Nat} (h1 : Nat.ble k k' = true) (h2 : Nat.ble k' ops.size = true) {s s' : Snap}
    (hrun : segO pr P fuel nt ops k k' s s' = true) (next : From P nt (fun w0 => wpO P ops rest (Q w0) k') s') : From P nt (fun w0 => wpO P ops rest (Q w0) k) s := by
  intro w0 φ a w ha
  have h1 := ble_t h1; have h2 := ble_t h2
  rw [List.all_eq_true] at hok
  have hlen : ((ops.toList.drop k).take (k' - k)).length = k' - k := by simp; omega
  show wpOpsIn (FR none) 0 P ops _ (List.range' k (ops.size - k)) a w
  have hsp : List.range' k (ops.size - k) = List.range' k (k' - k) ++ List.range' k' (ops.size - k') := by
    have := List.range'_append (s := k) (m := k' - k) (n := ops.size - k') (step := 1)
    rw [Nat.one_mul, show k + (k' - k) = k' by omega, show k' - k + (ops.size - k') = ops.size - k by omega] at this
    exact this.symm
  rw [hsp]
  have := runOps_then (P := P) (good := yes) (r0 := none) (Q := Exit.then (wpL P rest (Q w0)) (Q w0)) (rest := List.range' k' (ops.size - k')) yes_not hp (run_sound yes_not hp (draw_sound yes_not hp hm) fuel).1 hok (κ := fun tm h => s'.ok nt tm h) (ds := a.defers) (φ0 := φ) (h0 := s.hp) (w0 := w)
    (fun tm' h' φ' a' w' g1 g2 g3 g4 g5 => next w0 φ' a' w' (ha.next (ms := []) g1 g2 g3 g4 g5 trivial))
    ((ops.toList.drop k).take (k' - k)) k φ s.tt s.hp a w (fun j hj => by
      rw [hlen] at hj
      rw [List.getElem?_take_of_lt hj, List.getElem?_drop, Array.getElem?_toList]) ha.ht ha.hr (Ext.refl _ _ _) rfl hrun
  rw [hlen] at this
  exact this

/-! ## the end, the beginning -/
/-- what a law answers -/
def Holds (w0 : World) (e : Ending) (w' : World) : Prop := e = .returned (.bool true) ∧ GrownOld w0 w'

noncomputable def endB (pr : Prims Bool) (P : Program) (fuel : Nat) (rs : List XRes) (cs : List Code) (s : Snap) : Bool :=
  runL (run false pr P fuel) cs s.tt s.hp (endK false rs fun v _ => match v with | .bool true => true | _ => false)

theorem seg_end (hm : P.follows .mixedOrders = true) (hp : PrimsOk yes pr P) {f : FuncId} {c : Code} {rs : List XRes} (hc : callOk P f = .mk c rs nt) {fn : Func} (hf : P.funcs[f]? = some fn) {i : Nat} {s : Snap}
    (hrun : endB pr P fuel rs ((parts c).drop i) s = true) : From P nt (fun w0 => wpL P ((parts c).drop i) (bodyPostM (FR none) 0 P fn (Holds w0))) s := by
  intro w0 φ a w ha
  obtain ⟨fn', hf', hb, hnt', rfl, hck, hrk, hnt, hcall⟩ := callOk_sound hc
  rw [hf] at hf'; cases hf'
  have hall : ((parts c).drop i).all (codeOk nt) = true := by
    have h1 : ∀ c : Code, codeOk nt c = true → (parts c).all (codeOk nt) = true := by
      intro c
      induction c with
      | seq x y ihx ihy =>
        intro hh
        simp only [codeOk, Bool.and_eq_true] at hh
        simp only [parts, List.all_append, Bool.and_eq_true]
        exact ⟨ihx hh.1, ihy hh.2⟩
      | _ => intro hh; simpa [parts] using hh
    have := h1 c hck
    rw [List.all_eq_true] at this ⊢
    exact fun x hx => this x (List.mem_of_mem_drop hx)
  refine wpL_mono ?_ (runL_sound (good := yes) (run_sound yes_not hp (draw_sound yes_not hp hm) fuel).1 hall ha.ht ha.hr hrun)
  rintro e a' w' ⟨x, tm', h', φ', rfl, g1, g2, g3, g4, ms, g5, g6⟩
  have hall2 : Marks w0.heap.size φ' w' w'.heap.size a'.defers := by
    rw [g5]
    exact (ha.hm.mono g4 (Nat.le_refl _)).append ha.hx.size (Nat.le_refl _) g4.size g6
  have hx2 := ha.hx.trans g4
  have fin : yes (resultsB false h' tm' (fn.results.toList.map (resOf P)) fun vs => oneOr (fun v _ => match v with | .bool true => true | _ => false) h' vs) →
      LeavesInM (FR none) 0 P fn a'.tmps (Holds w0) a'.defers .returning w' := by
    intro k
    refine leave_marks (a := a') (φ' := φ') (h' := h') (w0 := w0) ?_ a'.defers _ w' hall2 g3 hx2
    intro w2 hr2 hxx
    obtain ⟨vs, vs', k1, k2, k3⟩ := resultsB_sound yes_not hr2 g2 _ hrk k
    refine ⟨_, results_mapM k3, ?_⟩
    have hG := grown_of_ext hxx
    cases k2 with
    | nil => exact absurd k1 yes_not
    | cons hv hvs =>
      cases hvs with
      | nil =>
        have hv0 := of_true (v := _) k1
        subst hv0
        cases hv
        exact ⟨rfl, hG⟩
      | cons hv2 hvs => exact absurd k1 yes_not
  cases x with
  | normal => exact fin g1
  | exit i => exact absurd g1 yes_not
  | ret => exact fin g1

/-- before the first piece -/
def snap0 (nt : Nat) : Snap := ⟨0, List.replicate nt undef, []⟩

theorem seg_start {f : FuncId} {c : Code} {rs : List XRes} (hc : callOk P f = .mk c rs nt) {fn : Func} (hf : P.funcs[f]? = some fn)
    (hrun : From P nt (fun w0 => wpL P ((parts c).drop 0) (bodyPostM (FR none) 0 P fn (Holds w0))) (snap0 nt)) : Calls P f #[] w fun e w' => e = .returned (.bool true) ∧ GrownOld w w' := by
  obtain ⟨fn', hf', hb, hnt', rfl, hck, hrk, hnt, hcall⟩ := callOk_sound hc
  rw [hf] at hf'; cases hf'
  refine callsFR (r := none) (n := 0) |>.1 (callsIn_of_wp_marks (R := Holds w) hf hb trivial (wp_parts c ?_))
  rw [List.drop_zero] at hrun
  refine hrun w (fun _ => none) _ w ⟨HR.start w, ?_, Ext.refl _ _ _, trivial⟩
  refine ⟨by simp [hnt'], hnt, fun t ht => ?_⟩
  have e1 : tmv (snap0 nt).tt t = undef := by
    simp only [tmv, Snap.tt, snap0]
    rw [get_lay _ .nil 0 (by simp; omega) t (by unfold Small; omega)]
    simp [ht]
  rw [e1]
  have e2 : ((#[] : Array Value) ++ Array.replicate (fn.ntmps - (#[] : Array Value).size) undef).getD t undef = undef := by
    simp only [Array.getD_eq_getD_getElem?]
    cases hq : ((#[] : Array Value) ++ Array.replicate (fn.ntmps - (#[] : Array Value).size) undef)[t]? with
    | none => rfl
    | some v =>
      simp only [Array.empty_append, Array.getElem?_replicate] at hq
      split at hq
      · cases hq; rfl
      · cases hq
  rw [e2]
  exact VR.undef
end Go.Vai
