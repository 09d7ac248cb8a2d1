/-
  PROVED HERE: a part of the proof, by a calculus of weakest conditions over an abstract heap (VaiC, VaiD, FP5, IX, IW2, IW3, VaiI, IW5).
-/
import Derived.Test.YtmfinibgeafebaaGreatDoorH4
import Derived.Test.YtmfinibgeafebaaGreatDoorH2
import Derived.Shelf.RegionOpenPlain
import Derived.Shelf.Spec.SlicesInsert
import Derived.WalkKit
import Derived.Lib.Walk
import Derived.Lib.AppendZeros
import Derived.Laws.Externs
import Derived.Lib.Overlaps
import Derived.Deep.WholeRow
import Derived.Test.YtmfinibgeafebaaGreatDoorH0
set_option linter.unusedVariables false
set_option linter.unusedSimpArgs false
set_option maxRecDepth 100000
namespace Go.Vai
open Go
variable {β : Type} {fl : β} {good : β → Prop} {P : Program} {φ : Emb} {h : Heap} {w : World}

/-! ## snapshots -/
/-- what is remembered of a block -/
inductive MObj where
  | cells (cs : List Value) (e : TypeId) (op : Bool)
  | map (es : List MapEntry) (clock : Nat)
  | dead (n : Nat) (e : TypeId)

noncomputable def MObj.obj : MObj → AObj
  | .cells cs e op => .cells cs.length (lay cs .nil 0) e op
  | .map es clock => .map es clock
  | .dead n e => .dead n e

/-- the slots, the blocks, how far their numbers have come -/
structure Snap where
  nx : Nat
  tm : List Value
  bl : List (Nat × MObj)

noncomputable def mkT : List (Nat × MObj) → T AObj
  | [] => .nil
  | (b, o) :: l => (mkT l).upd b o.obj
noncomputable def Snap.tt (s : Snap) : T Value := lay s.tm .nil 0
noncomputable def Snap.hp (s : Snap) : Heap := ⟨s.nx, mkT s.bl, 0⟩

noncomputable def sameCells (c : T Value) : List Value → Nat → Bool
  | [], _ => true
  | v :: vs, i => match c.get i with
    | some v' => veq 8 v' v && sameCells c vs (Nat.succ i)
    | none => false
def sameEntries : List MapEntry → List MapEntry → Bool
  | [], [] => true
  | a :: l, b :: m => veq 8 a.key b.key && veq 8 a.val b.val && Nat.beq a.born b.born && sameEntries l m
  | _, _ => false
noncomputable def sameObj (o : Option AObj) (m : MObj) : Bool :=
  match o, m with
  | some (.cells n c e op), .cells cs e' op' => Nat.beq n cs.length && Nat.beq e e' && (op == op') && sameCells c cs 0
  | some (.map es clock), .map es' clock' => sameEntries es es' && Nat.beq clock clock'
  | some (.dead n e), .dead n' e' => Nat.beq n n' && Nat.beq e e'
  | _, _ => false
noncomputable def sameSlots (tm : T Value) : List Value → Nat → Bool
  | [], _ => true
  | v :: vs, i => veq 8 (tmv tm i) v && sameSlots tm vs (Nat.succ i)
noncomputable def Snap.ok (s : Snap) (nt : Nat) (tm : T Value) (h : Heap) : Bool :=
  Nat.ble h.nx s.nx && Nat.ble s.nx 1000000000000 && Nat.beq s.tm.length nt && sameSlots tm s.tm 0 && s.bl.all fun p => Nat.ble (Nat.succ p.1) h.nx && sameObj (h.bl.get p.1) p.2

theorem sameCells_get {c : T Value} : ∀ {cs : List Value} {i : Nat}, sameCells c cs i = true → ∀ j v, cs[j]? = some v → c.get (i + j) = some v := by
  intro cs
  induction cs with
  | nil => intro i _ j v hj; simp at hj
  | cons x cs ih =>
    intro i hs j v hj
    unfold sameCells at hs
    split at hs <;> try contradiction
    rename_i v' hv
    simp only [Bool.and_eq_true] at hs
    have hx := veq_eq 8 _ _ hs.1
    cases j with
    | zero => simp at hj; subst hj; rw [← hx]; simpa using hv
    | succ j => have := ih hs.2 j v (by simpa using hj); rw [show i + (j + 1) = Nat.succ i + j by omega]; exact this
theorem sameSlots_get {tm : T Value} : ∀ {l : List Value} {i : Nat}, sameSlots tm l i = true → ∀ j v, l[j]? = some v → tmv tm (i + j) = v := by
  intro l
  induction l with
  | nil => intro i _ j v hj; simp at hj
  | cons x l ih =>
    intro i hs j v hj
    simp only [sameSlots, Bool.and_eq_true] at hs
    have hx := veq_eq 8 _ _ hs.1
    cases j with
    | zero => simp at hj; subst hj; simpa using hx
    | succ j => have := ih hs.2 j v (by simpa using hj); rw [show i + (j + 1) = Nat.succ i + j by omega]; exact this
theorem sameEntries_eq : ∀ {l m : List MapEntry}, sameEntries l m = true → l = m := by
  intro l
  induction l with
  | nil => intro m hs; cases m <;> simp [sameEntries] at hs; rfl
  | cons a l ih =>
    intro m hs
    cases m with
    | nil => simp [sameEntries] at hs
    | cons b m =>
      simp only [sameEntries, Bool.and_eq_true] at hs
      obtain ⟨⟨⟨h1, h2⟩, h3⟩, h4⟩ := hs
      have h1 := veq_eq 8 _ _ h1; have h2 := veq_eq 8 _ _ h2; have h3 := beq_t h3
      rw [ih h4]
      cases a; cases b; simp_all

theorem get_mkT : ∀ {l : List (Nat × MObj)} {b : Nat} {o : AObj}, (∀ p ∈ l, Small p.1) → Small b → (mkT l).get b = some o → ∃ m, (b, m) ∈ l ∧ o = m.obj := by
  intro l
  induction l with
  | nil => intro b o _ _ hg; rw [mkT, T.get_nil] at hg; cases hg
  | cons p l ih =>
    intro b o hs hb hg
    obtain ⟨b', m⟩ := p
    rw [mkT, T.get_upd _ _ (hs (b', m) (by simp)) hb] at hg
    split at hg
    · rename_i he; subst he; cases hg; exact ⟨m, by simp, rfl⟩
    · obtain ⟨m', h1, h2⟩ := ih (fun p hp => hs p (by simp [hp])) hb hg
      exact ⟨m', by simp [h1], h2⟩

theorem sameObj_OR {o : Option AObj} {m : MObj} (hs : sameObj o m = true) : ∃ o', o = some o' ∧ (m.obj.live ↔ o'.live) ∧ ∀ {pl : Pl} {O : Option Obj}, OR P φ o' pl O → OR P φ m.obj pl O := by
  unfold sameObj at hs
  split at hs <;> try contradiction
  · rename_i n c e op cs e' op'
    simp only [Bool.and_eq_true] at hs
    obtain ⟨⟨⟨h1, h2⟩, h3⟩, h4⟩ := hs
    have h1 := beq_t h1; have h2 := beq_t h2; have h3 : op = op' := by simpa using h3
    subst h1; subst h2; subst h3
    refine ⟨_, rfl, ⟨fun _ => trivial, fun _ => trivial⟩, fun {pl O} hO => ?_⟩
    cases O with
    | none => exact hO.elim
    | some O =>
      cases O <;> simp only [MObj.obj, OR] at hO ⊢
      obtain ⟨g1, g2, g3, g4, g5, g6⟩ := hO
      refine ⟨g1, g2, g3, g4, g5, fun i v hg hi => ?_⟩
      rw [get_lay cs .nil 0 (by omega) i (by unfold Small; omega), if_pos (by omega)] at hg
      exact g6 i v (by have := sameCells_get h4 i v (by simpa using hg); simpa using this) hi
  · rename_i es clock es' clock'
    simp only [Bool.and_eq_true] at hs
    have h1 := sameEntries_eq hs.1; have h2 := beq_t hs.2
    subst h1; subst h2
    exact ⟨_, rfl, Iff.rfl, fun hO => hO⟩
  · rename_i n e n' e'
    simp only [Bool.and_eq_true] at hs
    have h1 := beq_t hs.1; have h2 := beq_t hs.2
    subst h1; subst h2
    exact ⟨_, rfl, Iff.rfl, fun hO => hO⟩

/-- what a piece may lean on -/
structure At (P : Program) (nt : Nat) (s : Snap) (w0 : World) (φ : Emb) (a : Act) (w : World) : Prop where
  hr : HR P φ s.hp w
  ht : TR φ nt s.tt a
  hx : Ext (fun _ => none) φ ⟨0, .nil, 0⟩ s.hp w0 w
  hm : Marks w0.heap.size φ w w.heap.size a.defers

/-- memory as a piece leaves it, as the snapshot has it -/
theorem Snap.take {s : Snap} {nt : Nat} {tm : T Value} {a : Act} {w0 : World} (hs : s.ok nt tm h = true) (hr : HR P φ h w) (ht : TR φ nt tm a) (hx : Ext (fun _ => none) φ ⟨0, .nil, 0⟩ h w0 w) (hm : Marks w0.heap.size φ w w.heap.size a.defers) : At P nt s w0 φ a w := by
  unfold Snap.ok at hs
  simp only [Bool.and_eq_true] at hs
  obtain ⟨⟨⟨⟨h1, h2⟩, h3⟩, h4⟩, h5⟩ := hs
  have h1 := ble_t h1; have h2 := ble_t h2; have h3 := beq_t h3
  rw [List.all_eq_true] at h5
  have hin : ∀ p ∈ s.bl, p.1 < h.nx ∧ ∃ o', h.bl.get p.1 = some o' ∧ (p.2.obj.live ↔ o'.live) ∧ ∀ {pl : Pl} {O : Option Obj}, OR P φ o' pl O → OR P φ p.2.obj pl O := by
    intro p hp
    have := h5 p hp
    simp only [Bool.and_eq_true] at this
    exact ⟨lt_of_ble this.1, sameObj_OR this.2⟩
  have hsm : ∀ p ∈ s.bl, Small p.1 := fun p hp => by have := (hin p hp).1; unfold Small; omega
  have hdom : ∀ b pl, φ b = some pl → Small b := fun b pl hb => by have := (hr.dom b pl hb).1; unfold Small; omega
  refine ⟨⟨?_, ?_, ?_, ?_, ?_, Nat.zero_le _⟩, ⟨ht.size, ht.small, ?_⟩, ⟨hx.sub, ?_, Nat.zero_le _, hx.size, hx.frC, ?_, hx.tape, hx.os, hx.output, hx.fz, rfl, ?_, fun _ _ _ hb => absurd hb (Nat.not_lt_zero _), hx.dr⟩, hm⟩
  · intro b o pl hb hp
    obtain ⟨m, k1, rfl⟩ := get_mkT hsm (hdom b pl hp) hb
    obtain ⟨_, o', e1, e2, e3⟩ := hin _ k1
    exact e3 (hr.obj b o' pl e1 hp)
  · intro b pl hp; have := hr.dom b pl hp; exact ⟨Nat.lt_of_lt_of_le this.1 h1, this.2⟩
  · intro b o hsb hb
    obtain ⟨m, k1, rfl⟩ := get_mkT hsm hsb hb
    have := (hin _ k1).1
    exact Nat.lt_of_lt_of_le this h1
  · exact Nat.lt_succ_self _
  · intro b b' o o' pl pl' g1 g2 l1 l2 p1 p2 e
    obtain ⟨m, k1, rfl⟩ := get_mkT hsm (hdom b pl p1) g1
    obtain ⟨m', k1', rfl⟩ := get_mkT hsm (hdom b' pl' p2) g2
    obtain ⟨_, o1, e1, e2, e3⟩ := hin _ k1
    obtain ⟨_, o2, f1, f2, f3⟩ := hin _ k1'
    exact hr.inj b b' o1 o2 pl pl' e1 f1 (e2.1 l1) (f2.1 l2) p1 p2 e
  · intro t hlt
    have hv := ht.rel t hlt
    obtain ⟨v, hv2⟩ : ∃ v, s.tm[t]? = some v := ⟨s.tm[t]'(by omega), List.getElem?_eq_getElem (by omega)⟩
    have hq := sameSlots_get h4 t v hv2
    rw [Nat.zero_add] at hq
    rw [hq] at hv
    simp only [Snap.tt, tmv]
    have hnt := ht.small
    rw [get_lay s.tm .nil 0 (by omega) t (by unfold Small; omega), if_pos (by omega), Nat.sub_zero, hv2]
    exact hv
  · intro b pl _ hb; exact ⟨Nat.zero_le _, (hx.new b pl rfl hb).2⟩
  · intro b hb _; exact absurd hb (Nat.not_lt_zero _)
  · intro b hb; exact absurd hb (Nat.not_lt_zero _)

/-! ## pieces of code -/
/-- the pieces of a body, one behind the other -/
def parts : Code → List Code
  | .seq a b => parts a ++ parts b
  | c => [c]

def wpL (P : Program) : List Code → (Exit → Act → World → Prop) → Act → World → Prop
  | [], Q, a, w => Q .normal a w
  | c :: cs, Q, a, w => c.wpIn (FR none) 0 P (Exit.then (wpL P cs Q) Q) a w

theorem then_mono {K K' : Act → World → Prop} {Q Q' : Exit → Act → World → Prop} (hk : ∀ a w, K a w → K' a w) (hq : ∀ e a w, Q e a w → Q' e a w) : ∀ e a w, Exit.then K Q e a w → Exit.then K' Q' e a w := by
  intro e a w hh
  cases e <;> first | exact hk a w hh | exact hq _ a w hh
theorem wpL_mono : ∀ {cs : List Code} {Q Q' : Exit → Act → World → Prop} {a : Act} {w : World}, (∀ e a w, Q e a w → Q' e a w) → wpL P cs Q a w → wpL P cs Q' a w := by
  intro cs
  induction cs with
  | nil => intro Q Q' a w hq hh; exact hq _ _ _ hh
  | cons c cs ih => intro Q Q' a w hq hh; exact wpIn_mono hh (then_mono (fun a w => ih hq) hq)
theorem wpL_append : ∀ {l m : List Code} {Q : Exit → Act → World → Prop} {a : Act} {w : World}, wpL P l (Exit.then (wpL P m Q) Q) a w → wpL P (l ++ m) Q a w := by
  intro l
  induction l with
  | nil => intro m Q a w hh; exact hh
  | cons c l ih =>
    intro m Q a w hh
    refine wpIn_mono hh ?_
    intro e a w hq
    cases e <;> first | exact ih hq | exact hq
theorem wpL_split : ∀ {l m : List Code} {Q : Exit → Act → World → Prop} {a : Act} {w : World}, wpL P (l ++ m) Q a w → wpL P l (Exit.then (wpL P m Q) Q) a w := by
  intro l
  induction l with
  | nil => intro m Q a w hh; exact hh
  | cons c l ih =>
    intro m Q a w hh
    refine wpIn_mono hh ?_
    intro e a w hq
    cases e <;> first | exact ih hq | exact hq
theorem wp_one {c : Code} {Q : Exit → Act → World → Prop} {a : Act} {w : World} (hh : wpL P [c] Q a w) : c.wpIn (FR none) 0 P Q a w :=
  wpIn_mono hh fun e a w hq => by cases e <;> exact hq
theorem wp_parts : ∀ (c : Code) {Q : Exit → Act → World → Prop} {a : Act} {w : World}, wpL P (parts c) Q a w → c.wpIn (FR none) 0 P Q a w := by
  intro c
  induction c with
  | seq x y ihx ihy =>
    intro Q a w hh
    exact wpIn_seq (wpIn_mono (ihx (wpL_split hh)) (then_mono (fun a w => ihy) fun _ _ _ q => q))
  | _ => intro Q a w hh; exact wp_one hh

noncomputable def runL (rec : Rec β) : List Code → T Value → Heap → (Ex → T Value → Heap → β) → β
  | [], tm, h, κ => κ .normal tm h
  | c :: cs, tm, h, κ => rec c tm h fun e tm h => match e with
    | .normal => runL rec cs tm h κ
    | e => κ e tm h

theorem runL_sound {rec : Rec β} (hrec : RunOk good P rec) {nt : Nat} : ∀ {cs : List Code} {tm : T Value} {h : Heap} {κ : Ex → T Value → Heap → β} {φ : Emb} {w : World} {a : Act}, cs.all (codeOk nt) = true → TR φ nt tm a → HR P φ h w → good (runL rec cs tm h κ) →
    wpL P cs (Post good P nt φ h w a.defers κ) a w := by
  intro cs
  induction cs with
  | nil => intro tm h κ φ w a _ ht hr hg; exact Post.here (x := .normal) ht hr hg
  | cons c cs ih =>
    intro tm h κ φ w a hc ht hr hg
    simp only [List.all_cons, Bool.and_eq_true] at hc
    refine wpIn_mono (hrec c none tm h _ φ w nt a (.inl rfl) hc.1 ht hr hg) ?_
    rintro e a' w' ⟨x, tm', h', φ', rfl, g1, g2, g3, g4, ms, g5, g6⟩
    cases x with
    | normal => exact wpL_mono (fun e a w => Post.after g4 g5 g6) (ih hc.2 g2 g3 g1)
    | exit i => exact ⟨.exit i, tm', h', φ', rfl, g1, g2, g3, g4, ms, g5, g6⟩
    | ret => exact ⟨.ret, tm', h', φ', rfl, g1, g2, g3, g4, ms, g5, g6⟩

/-- from the snapshot on -/
def From (P : Program) (nt : Nat) (K : World → Act → World → Prop) (s : Snap) : Prop := ∀ w0 φ a w, At P nt s w0 φ a w → K w0 a w

variable {pr : Prims Bool} {nt fuel : Nat} {Q : World → Exit → Act → World → Prop}

theorem yes_not : ¬ yes false := by simp [yes]

/-- what a piece adds -/
theorem At.next {s s' : Snap} {w0 : World} {a a' : Act} {w' : World} {tm' : T Value} {h' : Heap} {φ' : Emb} (ha : At P nt s w0 φ a w) (hs : s'.ok nt tm' h' = true) (ht : TR φ' nt tm' a') (hr : HR P φ' h' w') (hx : Ext φ φ' s.hp h' w w')
    {ms : List Deferred} (hd : a'.defers = ms ++ a.defers) (hm : Marks w.heap.size φ' w' w'.heap.size ms) : At P nt s' w0 φ' a' w' := by
  refine s'.take hs hr ht (ha.hx.trans hx) ?_
  rw [hd]
  exact (ha.hm.mono hx (Nat.le_refl _)).append ha.hx.size (Nat.le_refl _) hx.size hm

noncomputable def segB (pr : Prims Bool) (P : Program) (fuel nt : Nat) (cs : List Code) (s s' : Snap) : Bool :=
  runL (run false pr P fuel) cs s.tt s.hp fun e tm h => match e with
    | .normal => s'.ok nt tm h
    | _ => false

theorem seg_codes (hm : P.follows .mixedOrders = true) (hp : PrimsOk yes pr P) {c : Code} {i j : Nat} (hij : i ≤ j) (hc : (parts c).all (codeOk nt) = true) {s s' : Snap}
    (hrun : segB pr P fuel nt (((parts c).drop i).take (j - i)) s s' = true) (next : From P nt (fun w0 => wpL P ((parts c).drop j) (Q w0)) s') : From P nt (fun w0 => wpL P ((parts c).drop i) (Q w0)) s := by
  intro w0 φ a w ha
  have hsp : (parts c).drop i = ((parts c).drop i).take (j - i) ++ (parts c).drop j := by
    have := (List.take_append_drop (j - i) ((parts c).drop i)).symm
    rw [List.drop_drop, show i + (j - i) = j by omega] at this
    exact this
  have hall : (((parts c).drop i).take (j - i)).all (codeOk nt) = true := by
    rw [List.all_eq_true] at hc ⊢
    exact fun x hx => hc x (List.mem_of_mem_drop (List.mem_of_mem_take hx))
  show wpL P ((parts c).drop i) (Q w0) a w
  rw [hsp]
  refine wpL_append (wpL_mono ?_ (runL_sound (good := yes) (run_sound yes_not hp (draw_sound yes_not hp hm) fuel).1 hall ha.ht ha.hr hrun))
  rintro e a' w' ⟨x, tm', h', φ', rfl, g1, g2, g3, g4, ms, g5, g6⟩
  cases x with
  | normal => exact next w0 φ' a' w' (ha.next g1 g2 g3 g4 g5 g6)
  | exit i => exact absurd g1 yes_not
  | ret => exact absurd g1 yes_not

/-! ## pieces of a region -/
/-- the operations of a piece that is a region -/
def regAt (c : Code) (i : Nat) : Array Oper := match (parts c)[i]? with
  | some (.region _ ops false) => ops
  | _ => #[]
def isReg (c : Code) (i : Nat) : Bool := match (parts c)[i]? with
  | some (.region _ _ false) => true
  | _ => false

theorem isReg_drop {c : Code} {i : Nat} (hr : isReg c i = true) : ∃ id, (parts c).drop i = .region id (regAt c i) false :: (parts c).drop (i + 1) := by
  unfold isReg at hr
  split at hr <;> try contradiction
  rename_i id ops hi
  refine ⟨id, ?_⟩
  have hlt : i < (parts c).length := (List.getElem?_eq_some_iff.1 hi).1
  rw [List.drop_eq_getElem_cons hlt]
  have he : (parts c)[i] = .region id ops false := by have := List.getElem?_eq_getElem hlt; rw [hi] at this; exact (Option.some.inj this).symm
  rw [he]
  simp [regAt, hi]

def wpO (P : Program) (ops : Array Oper) (rest : List Code) (Q : Exit → Act → World → Prop) (k : Nat) (a : Act) (w : World) : Prop :=
  wpOpsIn (FR none) 0 P ops (Exit.then (wpL P rest Q) Q) (List.range' k (ops.size - k)) a w

theorem reg_in {c : Code} {i : Nat} (hi : isReg c i = true) {s : Snap} (next : From P nt (fun w0 => wpO P (regAt c i) ((parts c).drop (i + 1)) (Q w0) 0) s) : From P nt (fun w0 => wpL P ((parts c).drop i) (Q w0)) s := by
  intro w0 φ a w ha
  obtain ⟨id, he⟩ := isReg_drop hi
  show wpL P ((parts c).drop i) (Q w0) a w
  rw [he]
  refine wpIn_region ?_
  rw [List.range_eq_range']
  have := next w0 φ a w ha
  exact this
theorem reg_out {ops : Array Oper} {rest : List Code} {k : Nat} (hk : Nat.ble ops.size k = true) {s : Snap} (next : From P nt (fun w0 => wpL P rest (Q w0)) s) : From P nt (fun w0 => wpO P ops rest (Q w0) k) s := by
  intro w0 φ a w ha
  have hk := ble_t hk
  show wpOpsIn (FR none) 0 P ops _ (List.range' k (ops.size - k)) a w
  rw [show ops.size - k = 0 by omega]
  exact next w0 φ a w ha

theorem runOps_then (hfl : ¬ good fl) {pr : Prims β} (hp : PrimsOk good pr P) {rec : Rec β} (hrec : RunOk good P rec) {ops : Array Oper} {nt : Nat} (hok : ∀ q ∈ ops.toList, operOk nt q = true) {κ : T Value → Heap → β}
    {r0 : Option Nat} {Q : Exit → Act → World → Prop} {ds : List Deferred} {φ0 : Emb} {h0 : Heap} {w0 : World} {rest : List Nat}
    (hQ : ∀ tm' h' φ' a' w', good (κ tm' h') → TR φ' nt tm' a' → HR P φ' h' w' → Ext φ0 φ' h0 h' w0 w' → a'.defers = ds → wpOpsIn (FR r0) 0 P ops Q rest a' w') :
    ∀ (os : List Oper) (i : Nat) (φ : Emb) (tm : T Value) (h : Heap) (a : Act) (w : World), (∀ k, k < os.length → os[k]? = ops[i + k]?) → TR φ nt tm a → HR P φ h w → Ext φ0 φ h0 h w0 w → a.defers = ds →
      good (runOps fl pr P rec ops.toList os tm h κ) → wpOpsIn (FR r0) 0 P ops Q (List.range' i os.length ++ rest) a w := by
  intro os
  induction os with
  | nil =>
    intro i φ tm h a w _ ht hr hx hd hg
    exact hQ tm h φ a w hg ht hr hx hd
  | cons o os ih =>
    intro i φ tm h a w hos ht hr hx hd hg
    have ho : ops[i]? = some o := by have := hos 0 (by simp); simpa using this.symm
    have hos' : ∀ k, k < os.length → os[k]? = ops[i + 1 + k]? := fun k hk => by have := hos (k + 1) (by simpa using hk); rw [show i + 1 + k = i + (k + 1) by omega]; simpa using this
    have hmem : o ∈ ops.toList := by
      have : ops.toList[i]? = some o := by simpa using ho
      exact List.mem_of_getElem? this
    have hoo := hok o hmem
    show wpOpsIn (FR r0) 0 P ops Q (i :: (List.range' (i + 1) os.length ++ rest)) a w
    simp only [wpOpsIn, ho]
    have hg' : good (XO.rec (motive := fun _ => β)
      (fun g d f => Bool.rec (motive := fun _ => β) (putK tm d undef h fun tm h => runOps fl pr P rec ops.toList os tm h κ)
        (f rec tm h fun v h => putK tm d v h fun tm h => runOps fl pr P rec ops.toList os tm h κ) (wantB tm g))
      (compO fl pr P ops.toList o)) := hg
    have put_defers : ∀ (d : Option Tmp) (v : Value), (a.put d v).defers = ds := fun d v => by cases d <;> exact hd
    cases hgo : guardOf ops.toList o with
    | none =>
      simp only [compO, hgo] at hg'
      exact absurd hg' hfl
    | some g =>
      simp only [compO, hgo] at hg'
      rw [wanted_eq (φ := φ) (tm := tm) hgo fun s w _ hs => ⟨by rw [ht.size]; exact looks_lt hok hmem hs, ht.rel s (looks_lt hok hmem hs)⟩]
      cases hw : wantB tm g with
      | false =>
        rw [hw] at hg'
        simp only [putK_eq] at hg'
        rw [if_neg (by simp)]
        refine ⟨about_all, ?_⟩
        exact ih (i + 1) φ _ h _ w hos' (ht.put (operOk_dst hoo) VR.undef) hr hx (put_defers _ _) hg'
      | true =>
        rw [hw] at hg'
        simp only [putK_eq] at hg'
        rw [if_pos rfl]
        refine compF_wp hfl hp hrec (fun y hy => ht.eval (operOk_opn hoo y hy)) hr hg' ?_
        intro φ' v v' h' w' g1 g2 g3 g4
        exact ih (i + 1) φ' _ h' _ w' hos' ((ht.mono g4.sub).put (operOk_dst hoo) g2) g3 (hx.trans g4) (put_defers _ _) g1

noncomputable def segO (pr : Prims Bool) (P : Program) (fuel nt : Nat) (ops : Array Oper) (k k' : Nat) (s s' : Snap) : Bool :=
  runOps false pr P (run false pr P fuel) ops.toList ((ops.toList.drop k).take (k' - k)) s.tt s.hp fun tm h => s'.ok nt tm h

theorem seg_ops (hm : P.follows .mixedOrders = true) (hp : PrimsOk yes pr P) {ops : Array Oper} (hok : ops.toList.all (operOk nt) = true) {rest : List Code} {k k' : Nat} (h1 : Nat.ble k k' = true) (h2 : Nat.ble k' ops.size = true) {s s' : Snap}
    (hrun : segO pr P fuel nt ops k k' s s' = true) (next : From P nt (fun w0 => wpO P ops rest (Q w0) k') s') : From P nt (fun w0 => wpO P ops rest (Q w0) k) s := by
  intro w0 φ a w ha
  have h1 := ble_t h1; have h2 := ble_t h2
  rw [List.all_eq_true] at hok
  have hlen : ((ops.toList.drop k).take (k' - k)).length = k' - k := by simp; omega
  show wpOpsIn (FR none) 0 P ops _ (List.range' k (ops.size - k)) a w
  have hsp : List.range' k (ops.size - k) = List.range' k (k' - k) ++ List.range' k' (ops.size - k') := by
    have := List.range'_append (s := k) (m := k' - k) (n := ops.size - k') (step := 1)
    rw [Nat.one_mul, show k + (k' - k) = k' by omega, show k' - k + (ops.size - k') = ops.size - k by omega] at this
    exact this.symm
  rw [hsp]
  have := runOps_then (P := P) (good := yes) (r0 := none) (Q := Exit.then (wpL P rest (Q w0)) (Q w0)) (rest := List.range' k' (ops.size - k')) yes_not hp (run_sound yes_not hp (draw_sound yes_not hp hm) fuel).1 hok (κ := fun tm h => s'.ok nt tm h) (ds := a.defers) (φ0 := φ) (h0 := s.hp) (w0 := w)
    (fun tm' h' φ' a' w' g1 g2 g3 g4 g5 => next w0 φ' a' w' (ha.next (ms := []) g1 g2 g3 g4 g5 trivial))
    ((ops.toList.drop k).take (k' - k)) k φ s.tt s.hp a w (fun j hj => by
      rw [hlen] at hj
      rw [List.getElem?_take_of_lt hj, List.getElem?_drop, Array.getElem?_toList]) ha.ht ha.hr (Ext.refl _ _ _) rfl hrun
  rw [hlen] at this
  exact this

/-! ## the end, the beginning -/
/-- what a law answers -/
def Holds (w0 : World) (e : Ending) (w' : World) : Prop := e = .returned (.bool true) ∧ GrownOld w0 w'

noncomputable def endB (pr : Prims Bool) (P : Program) (fuel : Nat) (rs : List XRes) (cs : List Code) (s : Snap) : Bool :=
  runL (run false pr P fuel) cs s.tt s.hp (endK false rs fun v _ => match v with | .bool true => true | _ => false)

theorem seg_end (hm : P.follows .mixedOrders = true) (hp : PrimsOk yes pr P) {f : FuncId} {c : Code} {rs : List XRes} (hc : callOk P f = .mk c rs nt) {fn : Func} (hf : P.funcs[f]? = some fn) {i : Nat} {s : Snap}
    (hrun : endB pr P fuel rs ((parts c).drop i) s = true) : From P nt (fun w0 => wpL P ((parts c).drop i) (bodyPostM (FR none) 0 P fn (Holds w0))) s := by
  intro w0 φ a w ha
  obtain ⟨fn', hf', hb, hnt', rfl, hck, hrk, hnt, hcall⟩ := callOk_sound hc
  rw [hf] at hf'; cases hf'
  have hall : ((parts c).drop i).all (codeOk nt) = true := by
    have h1 : ∀ c : Code, codeOk nt c = true → (parts c).all (codeOk nt) = true := by
      intro c
      induction c with
      | seq x y ihx ihy =>
        intro hh
        simp only [codeOk, Bool.and_eq_true] at hh
        simp only [parts, List.all_append, Bool.and_eq_true]
        exact ⟨ihx hh.1, ihy hh.2⟩
      | _ => intro hh; simpa [parts] using hh
    have := h1 c hck
    rw [List.all_eq_true] at this ⊢
    exact fun x hx => this x (List.mem_of_mem_drop hx)
  refine wpL_mono ?_ (runL_sound (good := yes) (run_sound yes_not hp (draw_sound yes_not hp hm) fuel).1 hall ha.ht ha.hr hrun)
  rintro e a' w' ⟨x, tm', h', φ', rfl, g1, g2, g3, g4, ms, g5, g6⟩
  have hall2 : Marks w0.heap.size φ' w' w'.heap.size a'.defers := by
    rw [g5]
    exact (ha.hm.mono g4 (Nat.le_refl _)).append ha.hx.size (Nat.le_refl _) g4.size g6
  have hx2 := ha.hx.trans g4
  have fin : yes (resultsB false h' tm' (fn.results.toList.map (resOf P)) fun vs => oneOr (fun v _ => match v with | .bool true => true | _ => false) h' vs) →
      LeavesInM (FR none) 0 P fn a'.tmps (Holds w0) a'.defers .returning w' := by
    intro k
    refine leave_marks (a := a') (φ' := φ') (h' := h') (w0 := w0) ?_ a'.defers _ w' hall2 g3 hx2
    intro w2 hr2 hxx
    obtain ⟨vs, vs', k1, k2, k3⟩ := resultsB_sound yes_not hr2 g2 _ hrk k
    refine ⟨_, results_mapM k3, ?_⟩
    have hG := grown_of_ext hxx
    cases k2 with
    | nil => exact absurd k1 yes_not
    | cons hv hvs =>
      cases hvs with
      | nil =>
        have hv0 := of_true (v := _) k1
        subst hv0
        cases hv
        exact ⟨rfl, hG⟩
      | cons hv2 hvs => exact absurd k1 yes_not
  cases x with
  | normal => exact fin g1
  | exit i => exact absurd g1 yes_not
  | ret => exact fin g1

/-- before the first piece -/
def snap0 (nt : Nat) : Snap := ⟨0, List.replicate nt undef, []⟩

theorem seg_start {f : FuncId} {c : Code} {rs : List XRes} (hc : callOk P f = .mk c rs nt) {fn : Func} (hf : P.funcs[f]? = some fn)
    (hrun : From P nt (fun w0 => wpL P ((parts c).drop 0) (bodyPostM (FR none) 0 P fn (Holds w0))) (snap0 nt)) : Calls P f #[] w fun e w' => e = .returned (.bool true) ∧ GrownOld w w' := by
  obtain ⟨fn', hf', hb, hnt', rfl, hck, hrk, hnt, hcall⟩ := callOk_sound hc
  rw [hf] at hf'; cases hf'
  refine callsFR (r := none) (n := 0) |>.1 (callsIn_of_wp_marks (R := Holds w) hf hb trivial (wp_parts c ?_))
  rw [List.drop_zero] at hrun
  refine hrun w (fun _ => none) _ w ⟨HR.start w, ?_, Ext.refl _ _ _, trivial⟩
  refine ⟨by simp [hnt'], hnt, fun t ht => ?_⟩
  have e1 : tmv (snap0 nt).tt t = undef := by
    simp only [tmv, Snap.tt, snap0]
    rw [get_lay _ .nil 0 (by simp; omega) t (by unfold Small; omega)]
    simp [ht]
  rw [e1]
  have e2 : ((#[] : Array Value) ++ Array.replicate (fn.ntmps - (#[] : Array Value).size) undef).getD t undef = undef := by
    simp only [Array.getD_eq_getD_getElem?]
    cases hq : ((#[] : Array Value) ++ Array.replicate (fn.ntmps - (#[] : Array Value).size) undef)[t]? with
    | none => rfl
    | some v =>
      simp only [Array.empty_append, Array.getElem?_replicate] at hq
      split at hq
      · cases hq; rfl
      · cases hq
  rw [e2]
  exact VR.undef
end Go.Vai

namespace Go.Vai
open Go
variable {β : Type} {fl : β} {good : β → Prop} {P : Program} {φ ψ : Emb} {h : Heap} {w : World}

structure Ent where
  f : Nat
  nx : Nat
  args : List Value
  bl : List (Nat × MObj)
  v : Value
  d : List (Nat × MObj)
  nx2 : Nat

def MObj.liveB : MObj → Bool
  | .dead .. => false
  | _ => true

noncomputable def MObj.objK (m : MObj) (κ : AObj → β) : β := match m with
  | .cells cs e op => layN cs .nil 0 fun c n => κ (.cells n c e op)
  | .map es clock => κ (.map es clock)
  | .dead n e => κ (.dead n e)

noncomputable def mkTo : List (Nat × MObj) → T AObj → T AObj
  | [], t => t
  | p :: l, t => (mkTo l t).upd p.1 p.2.obj
noncomputable def updK : List (Nat × MObj) → T AObj → (T AObj → β) → β
  | [], t, κ => κ t
  | p :: l, t, κ => updK l t fun t => p.2.objK fun o => T.set t p.1 o κ

/-- the same, of what is remembered -/
noncomputable def mkM : List (Nat × MObj) → T MObj
  | [] => .nil
  | p :: l => (mkM l).upd p.1 p.2
noncomputable def memK : List (Nat × MObj) → (T MObj → β) → β
  | [], κ => κ .nil
  | p :: l, κ => memK l fun t => T.set t p.1 p.2 κ

def lk : List (Nat × MObj) → Nat → Option MObj
  | [], _ => none
  | p :: l, b => match Nat.beq p.1 b with
    | true => some p.2
    | false => lk l b

theorem objK_eq (m : MObj) (κ : AObj → β) : m.objK κ = κ m.obj := by
  cases m with
  | cells cs e op => simp only [MObj.objK, MObj.obj]; rw [layN_eq, Nat.zero_add]
  | map es clock => rfl
  | dead n e => rfl
theorem updK_eq : ∀ (l : List (Nat × MObj)) (t : T AObj) (κ : T AObj → β), updK l t κ = κ (mkTo l t) := by
  intro l
  induction l with
  | nil => intro t κ; rfl
  | cons p l ih => intro t κ; simp only [updK, mkTo]; rw [ih, objK_eq, T.set_eq]
theorem memK_eq : ∀ (l : List (Nat × MObj)) (κ : T MObj → β), memK l κ = κ (mkM l) := by
  intro l
  induction l with
  | nil => intro κ; rfl
  | cons p l ih => intro κ; simp only [memK, mkM]; rw [ih, T.set_eq]

theorem mkTo_get : ∀ {l : List (Nat × MObj)} {t : T AObj} {b : Nat}, (∀ p ∈ l, Small p.1) → Small b → (mkTo l t).get b = match lk l b with
    | some m => some m.obj
    | none => t.get b := by
  intro l
  induction l with
  | nil => intro t b _ _; rfl
  | cons p l ih =>
    intro t b hs hb
    simp only [mkTo, lk]
    rw [T.get_upd _ _ (hs p (by simp)) hb]
    cases hq : Nat.beq p.1 b with
    | true => rw [if_pos (beq_t hq)]
    | false => rw [if_neg (beq_f hq)]; exact ih (fun p hp => hs p (by simp [hp])) hb
theorem lk_mem : ∀ {l : List (Nat × MObj)} {b : Nat} {m : MObj}, lk l b = some m → (b, m) ∈ l := by
  intro l
  induction l with
  | nil => intro b m e; cases e
  | cons p l ih =>
    intro b m e
    simp only [lk] at e
    split at e
    · rename_i hq; cases e; have := beq_t hq; subst this; simp
    · exact List.mem_cons_of_mem _ (ih e)
theorem lk_some : ∀ {l : List (Nat × MObj)} {p : Nat × MObj}, p ∈ l → ∃ m, lk l p.1 = some m := by
  intro l
  induction l with
  | nil => intro p hp; cases hp
  | cons q l ih =>
    intro p hp
    simp only [lk]
    cases hq : Nat.beq q.1 p.1 with
    | true => exact ⟨_, rfl⟩
    | false =>
      rcases List.mem_cons.1 hp with rfl | hp
      · exact absurd rfl (beq_f hq)
      · exact ih hp
theorem mkM_get : ∀ {l : List (Nat × MObj)} {b : Nat}, (∀ p ∈ l, Small p.1) → Small b → (mkM l).get b = lk l b := by
  intro l
  induction l with
  | nil => intro b _ _; simp [mkM, lk, T.get_nil]
  | cons p l ih =>
    intro b hs hb
    simp only [mkM, lk]
    rw [T.get_upd _ _ (hs p (by simp)) hb]
    cases hq : Nat.beq p.1 b with
    | true => rw [if_pos (beq_t hq)]
    | false => rw [if_neg (beq_f hq)]; exact ih (fun p hp => hs p (by simp [hp])) hb

/-! ## the names of values -/
def nmL (f : Value → List Nat → Option (List Nat)) : List Value → List Nat → Option (List Nat)
  | [], acc => some acc
  | v :: vs, acc => match f v acc with
    | some acc => nmL f vs acc
    | none => none
def nm : Nat → Value → List Nat → Option (List Nat)
  | 0, _, _ => none
  | n + 1, v, acc => match v with
    | .bool _ | .int .. | .string _ | .nilFunc | .nilIface | .pointer none | .slice none _ _ | .map none => some acc
    | .pointer (some ⟨b, _, none⟩) => some (b :: acc)
    | .slice (some ⟨b, _, none⟩) _ c => match Nat.beq c anyCap with
      | true => some acc
      | false => some (b :: acc)
    | .map (some b) => some (b :: acc)
    | .func (.yield b) _ _ => some (b :: acc)
    | .func (.func _) a c => match nmL (nm n) a.toList acc with
      | some acc => nmL (nm n) c.toList acc
      | none => none
    | .iface _ x => nm n x acc
    | .agg a => nmL (nm n) a.toList acc
    | .tuple a => nmL (nm n) a.toList acc
    | _ => none
def nmE : List MapEntry → List Nat → Option (List Nat)
  | [], acc => some acc
  | e :: es, acc => match nm 8 e.key acc with
    | some acc => match nm 8 e.val acc with
      | some acc => nmE es acc
      | none => none
    | none => none
def nmM (m : MObj) (acc : List Nat) : Option (List Nat) := match m with
  | .cells cs _ _ => nmL (nm 8) cs acc
  | .map es _ => nmE es acc
  | .dead .. => none

/-- what the names of a value are good for -/
def NmOk (f : Value → List Nat → Option (List Nat)) : Prop := ∀ (φ : Emb) (v v' : Value) (acc out : List Nat), VR φ v v' → f v acc = some out →
  (∀ x ∈ acc, x ∈ out) ∧ (∀ x ∈ out, x ∈ acc ∨ φ x ≠ none) ∧ ∀ ψ : Emb, (∀ x ∈ out, φ x ≠ none → ψ x = φ x) → VR ψ v v'

theorem nmL_ok {f : Value → List Nat → Option (List Nat)} (hf : NmOk f) : ∀ (l : List Value) (acc out : List Nat), nmL f l acc = some out → ∀ (φ : Emb), (∀ (i : Nat) (v : Value), l[i]? = some v → ∃ v', VR φ v v') →
    (∀ x ∈ acc, x ∈ out) ∧ (∀ x ∈ out, x ∈ acc ∨ φ x ≠ none) ∧ ∀ ψ : Emb, (∀ x ∈ out, φ x ≠ none → ψ x = φ x) → ∀ (i : Nat) (v v' : Value), l[i]? = some v → VR φ v v' → VR ψ v v' := by
  intro l
  induction l with
  | nil =>
    intro acc out e φ _
    cases e
    exact ⟨fun _ h => h, fun _ h => .inl h, fun ψ _ i v v' hi => by simp at hi⟩
  | cons a l ih =>
    intro acc out e φ hv
    simp only [nmL] at e
    split at e <;> try contradiction
    rename_i acc2 he
    obtain ⟨a', ha'⟩ := hv 0 a (by simp)
    obtain ⟨h1, h2, h3⟩ := hf φ a a' acc acc2 ha' he
    obtain ⟨k1, k2, k3⟩ := ih acc2 out e φ (fun i v hi => hv (i + 1) v (by simpa using hi))
    refine ⟨fun x hx => k1 x (h1 x hx), fun x hx => ?_, fun ψ hψ i v v' hi hvv => ?_⟩
    · rcases k2 x hx with h | h
      · exact h2 x h
      · exact .inr h
    · cases i with
      | zero =>
        simp at hi; subst hi
        exact (hf φ a v' acc acc2 hvv he).2.2 ψ fun x hx => hψ x (k1 x hx)
      | succ i => exact k3 ψ hψ i v v' (by simpa using hi) hvv

theorem nm_ok : ∀ n, NmOk (nm n) := by
  intro n
  induction n with
  | zero => intro φ v v' acc out _ e; cases e
  | succ n ih =>
    have same : ∀ (φ : Emb) (v v' : Value) (acc out : List Nat), some acc = some out → (∀ ψ : Emb, VR ψ v v') →
        (∀ x ∈ acc, x ∈ out) ∧ (∀ x ∈ out, x ∈ acc ∨ φ x ≠ none) ∧ ∀ ψ : Emb, (∀ x ∈ out, φ x ≠ none → ψ x = φ x) → VR ψ v v' := by
      intro φ v v' acc out e k
      cases e
      exact ⟨fun _ h => h, fun _ h => .inl h, fun ψ _ => k ψ⟩
    have one : ∀ (φ : Emb) (v v' : Value) (acc out : List Nat) (b : Nat) (pl : Pl), some (b :: acc) = some out → φ b = some pl → (∀ ψ : Emb, ψ b = some pl → VR ψ v v') →
        (∀ x ∈ acc, x ∈ out) ∧ (∀ x ∈ out, x ∈ acc ∨ φ x ≠ none) ∧ ∀ ψ : Emb, (∀ x ∈ out, φ x ≠ none → ψ x = φ x) → VR ψ v v' := by
      intro φ v v' acc out b pl e hb k
      cases e
      refine ⟨fun x h => by simp [h], fun x h => ?_, fun ψ hψ => k ψ ?_⟩
      · rcases List.mem_cons.1 h with rfl | h
        · right; rw [hb]; simp
        · exact .inl h
      · rw [hψ b (by simp) (by rw [hb]; simp), hb]
    have arr : ∀ (φ : Emb) (a a' : Array Value) (acc out : List Nat), nmL (nm n) a.toList acc = some out → a.toList.length = a'.toList.length → (∀ (i : Nat) (v v' : Value), a.toList[i]? = some v → a'.toList[i]? = some v' → VR φ v v') →
        (∀ x ∈ acc, x ∈ out) ∧ (∀ x ∈ out, x ∈ acc ∨ φ x ≠ none) ∧ ∀ ψ : Emb, (∀ x ∈ out, φ x ≠ none → ψ x = φ x) → ∀ (i : Nat) (v v' : Value), a.toList[i]? = some v → a'.toList[i]? = some v' → VR ψ v v' := by
      intro φ a a' acc out e hl hva
      obtain ⟨h1, h2, h3⟩ := nmL_ok ih a.toList acc out e φ (fun i v hi => by
        have hlt : i < a.toList.length := (List.getElem?_eq_some_iff.1 hi).1
        exact ⟨a'.toList[i]'(by omega), hva i v _ hi (List.getElem?_eq_getElem (by omega))⟩)
      exact ⟨h1, h2, fun ψ hψ i v v' hi hi' => h3 ψ hψ i v v' hi (hva i v v' hi hi')⟩
    intro φ v v' acc out hv e
    cases hv with
    | bool b => exact same φ _ _ acc out e fun ψ => .bool b
    | int k m => exact same φ _ _ acc out e fun ψ => .int k m
    | string s => exact same φ _ _ acc out e fun ψ => .string s
    | nilFunc => exact same φ _ _ acc out e fun ψ => .nilFunc
    | nilIface => exact same φ _ _ acc out e fun ψ => .nilIface
    | ptrNil => exact same φ _ _ acc out e fun ψ => .ptrNil
    | ptr hb => exact one φ _ _ acc out _ _ e hb fun ψ hψ => .ptr hψ
    | sliceNil hn => exact same φ _ _ acc out e fun ψ => .sliceNil hn
    | slice hb hn hc =>
      simp only [nm] at e
      split at e
      · rename_i hq; have := beq_t hq; subst this; exact absurd hc (by unfold anyCap openCap; omega)
      · exact one φ _ _ acc out _ _ e hb fun ψ hψ => .slice hψ hn hc
    | sliceOpen hb hn hc =>
      simp only [nm] at e
      split at e
      · rename_i hq; have := beq_t hq; exact absurd this (by unfold anyCap openCap; omega)
      · exact one φ _ _ acc out _ _ e hb fun ψ hψ => .sliceOpen hψ hn hc
    | sliceAny a a' c =>
      obtain ⟨b, o, x⟩ := a
      cases x with
      | some x => simp [nm] at e
      | none =>
        simp only [nm] at e
        split at e
        · exact same φ _ _ acc out e fun ψ => .sliceAny _ a' c
        · rename_i hq; exact absurd rfl (beq_f hq)
    | sliceEnd a' hb hc =>
      simp only [nm] at e
      split at e
      · rename_i hq; have := beq_t hq; exact absurd this (by unfold anyCap endCap; omega)
      · exact one φ _ _ acc out _ _ e hb fun ψ hψ => .sliceEnd a' hψ hc
    | mapNil => exact same φ _ _ acc out e fun ψ => .mapNil
    | map hb => exact one φ _ _ acc out _ _ e hb fun ψ hψ => .map hψ
    | yield hb => exact one φ _ _ acc out _ _ e hb fun ψ hψ => .yield hψ
    | func fn a a' c c' ha hc hva hvc =>
      simp only [nm] at e
      split at e <;> try contradiction
      rename_i acc2 he
      obtain ⟨h1, h2, h3⟩ := arr φ a a' acc acc2 he ha hva
      obtain ⟨k1, k2, k3⟩ := arr φ c c' acc2 out e hc hvc
      refine ⟨fun x hx => k1 x (h1 x hx), fun x hx => ?_, fun ψ hψ => .func fn a a' c c' ha hc (h3 ψ fun x hx => hψ x (k1 x hx)) (k3 ψ hψ)⟩
      rcases k2 x hx with h | h
      · exact h2 x h
      · exact .inr h
    | iface t hx =>
      obtain ⟨h1, h2, h3⟩ := ih φ _ _ acc out hx e
      exact ⟨h1, h2, fun ψ hψ => .iface t (h3 ψ hψ)⟩
    | agg a a' ha hva =>
      obtain ⟨h1, h2, h3⟩ := arr φ a a' acc out e ha hva
      exact ⟨h1, h2, fun ψ hψ => .agg a a' ha (h3 ψ hψ)⟩
    | tuple a a' ha hva =>
      obtain ⟨h1, h2, h3⟩ := arr φ a a' acc out e ha hva
      exact ⟨h1, h2, fun ψ hψ => .tuple a a' ha (h3 ψ hψ)⟩

theorem nmE_ok : ∀ (es es' : List MapEntry) (acc out : List Nat), nmE es acc = some out → ∀ (φ : Emb), F2 (ER φ) es es' →
    (∀ x ∈ acc, x ∈ out) ∧ (∀ x ∈ out, x ∈ acc ∨ φ x ≠ none) ∧ ∀ ψ : Emb, (∀ x ∈ out, φ x ≠ none → ψ x = φ x) → F2 (ER ψ) es es' := by
  intro es
  induction es with
  | nil =>
    intro es' acc out e φ hf
    cases e; cases hf
    exact ⟨fun _ h => h, fun _ h => .inl h, fun ψ _ => .nil⟩
  | cons a es ih =>
    intro es' acc out e φ hf
    cases hf with
    | cons ha ht =>
      simp only [nmE] at e
      split at e <;> try contradiction
      rename_i acc1 e1
      split at e <;> try contradiction
      rename_i acc2 e2
      obtain ⟨h1, h2, h3⟩ := nm_ok 8 φ _ _ acc acc1 ha.key e1
      obtain ⟨k1, k2, k3⟩ := nm_ok 8 φ _ _ acc1 acc2 ha.val e2
      obtain ⟨l1, l2, l3⟩ := ih _ acc2 out e φ ht
      refine ⟨fun x hx => l1 x (k1 x (h1 x hx)), fun x hx => ?_, fun ψ hψ => .cons ⟨h3 ψ fun x hx => hψ x (l1 x (k1 x hx)), k3 ψ fun x hx => hψ x (l1 x hx), ha.born⟩ (l3 ψ hψ)⟩
      rcases l2 x hx with h | h
      · rcases k2 x h with h | h
        · exact h2 x h
        · exact .inr h
      · exact .inr h

theorem nmM_ok {m : MObj} {acc out : List Nat} (e : nmM m acc = some out) {pl : Pl} {O : Option Obj} (hO : OR P φ m.obj pl O) (hsm : ∀ cs ety op, m = .cells cs ety op → cs.length ≤ 4611686018427387904) :
    (∀ x ∈ acc, x ∈ out) ∧ (∀ x ∈ out, x ∈ acc ∨ φ x ≠ none) ∧ ∀ ψ : Emb, (∀ x ∈ out, φ x ≠ none → ψ x = φ x) → OR P ψ m.obj pl O := by
  cases m with
  | dead n e' => cases e
  | map es clock =>
    cases O with
    | none => exact hO.elim
    | some O =>
      cases O <;> simp only [MObj.obj, OR] at hO ⊢
      obtain ⟨h1, h2⟩ := hO
      obtain ⟨k1, k2, k3⟩ := nmE_ok _ _ acc out e φ h2
      exact ⟨k1, k2, fun ψ hψ => ⟨h1, k3 ψ hψ⟩⟩
  | cells cs ety op =>
    have hlen := hsm cs ety op rfl
    cases O with
    | none => exact hO.elim
    | some O =>
      cases O <;> simp only [MObj.obj, OR] at hO ⊢
      obtain ⟨g1, g2, g3, g4, g5, g6⟩ := hO
      have look : ∀ (i : Nat) (v : Value), cs[i]? = some v → i < cs.length ∧ (lay cs .nil 0).get i = some v := by
        intro i v hi
        have hlt : i < cs.length := (List.getElem?_eq_some_iff.1 hi).1
        rw [get_lay cs .nil 0 (by omega) i (by unfold Small; omega), if_pos (by omega)]
        exact ⟨hlt, by simpa using hi⟩
      obtain ⟨k1, k2, k3⟩ := nmL_ok (nm_ok 8) cs acc out e φ (fun i v hi => by
        obtain ⟨a, b⟩ := look i v hi
        obtain ⟨v', _, hv⟩ := g6 i v b a
        exact ⟨v', hv⟩)
      refine ⟨k1, k2, fun ψ hψ => ⟨g1, g2, g3, g4, g5, fun i v hg hi => ?_⟩⟩
      obtain ⟨v', a, b⟩ := g6 i v hg hi
      rw [get_lay cs .nil 0 (by omega) i (by unfold Small; omega), if_pos (by omega)] at hg
      exact ⟨v', a, k3 ψ hψ i v v' (by simpa using hg) b⟩

/-! ## what is reached -/
noncomputable def dfs (mt : T MObj) : Nat → List Nat → T Unit → Option (T Unit)
  | 0, _, _ => none
  | _ + 1, [], vis => some vis
  | k + 1, b :: st, vis => match vis.get b with
    | some _ => dfs mt k st vis
    | none => match mt.get b with
      | none => none
      | some m => match nmM m st with
        | some st => T.set vis b () fun vis => dfs mt k st vis
        | none => none

theorem dfs_ok {mt : T MObj} (hdom : ∀ b, φ b ≠ none → Small b) (hm : ∀ (b : Nat) (m : MObj), mt.get b = some m → φ b ≠ none → ∀ acc out, nmM m acc = some out → ∀ x ∈ out, x ∈ acc ∨ φ x ≠ none) :
    ∀ (k : Nat) (st : List Nat) (vis out : T Unit), dfs mt k st vis = some out → (∀ x ∈ st, φ x ≠ none) → (∀ b, Small b → vis.get b ≠ none → φ b ≠ none) → ∀ b, Small b → out.get b ≠ none → φ b ≠ none := by
  intro k
  induction k with
  | zero => intro st vis out e; cases e
  | succ k ih =>
    intro st vis out e hst hvis
    cases st with
    | nil => simp only [dfs] at e; cases e; exact hvis
    | cons b st =>
      simp only [dfs] at e
      have hb := hst b (by simp)
      have hst' : ∀ x ∈ st, φ x ≠ none := fun x hx => hst x (by simp [hx])
      split at e
      · exact ih st vis out e hst' hvis
      · split at e <;> try contradiction
        rename_i m hmg
        split at e <;> try contradiction
        rename_i st2 he
        rw [T.set_eq] at e
        refine ih st2 _ out e (fun x hx => ?_) (fun c hc hg => ?_)
        · rcases hm b m hmg hb st st2 he x hx with h1 | h1
          · exact hst' x h1
          · exact h1
        · rw [T.get_upd _ _ (hdom b hb) hc] at hg
          split at hg
          · rename_i he; subst he; exact hb
          · exact hvis c hc hg

noncomputable def isKeyB (mt : T MObj) (b : Nat) : Bool := match mt.get b with
  | some _ => true
  | none => false
noncomputable def keysB (mt : T MObj) : List Nat → Bool
  | [] => true
  | b :: l => match mt.get b with
    | some _ => keysB mt l
    | none => false
theorem keysB_mem {mt : T MObj} : ∀ {l : List Nat}, keysB mt l = true → ∀ x ∈ l, mt.get x ≠ none := by
  intro l
  induction l with
  | nil => intro _ x hx; cases hx
  | cons b l ih =>
    intro e x hx
    simp only [keysB] at e
    split at e <;> try contradiction
    rename_i m hb
    rcases List.mem_cons.1 hx with rfl | hx
    · rw [hb]; simp
    · exact ih e x hx

def shortB : MObj → Bool
  | .cells cs _ _ => Nat.ble cs.length 1000000000000
  | _ => true

/-- what is asked of an entry by itself -/
noncomputable def Ent.fitB (e : Ent) : Bool :=
  memK e.bl fun mt => Nat.ble (Nat.succ e.nx) e.nx2 && Nat.ble e.nx2 1000000000000 &&
    (e.bl.all fun p => Nat.ble (Nat.succ p.1) e.nx && p.2.liveB && shortB p.2 && match nmM p.2 [] with | some l => keysB mt l | none => false) &&
    (e.d.all fun p => Nat.ble (Nat.succ p.1) e.nx2 && (Nat.ble e.nx p.1 || isKeyB mt p.1)) &&
    match nmL (nm 8) e.args [] with
      | some st => keysB mt st && match dfs mt 1000000000 st .nil with
        | some vis => e.bl.all fun p => match vis.get p.1 with | some _ => true | none => false
        | none => false
      | none => false

structure Ent.Fit (e : Ent) : Prop where
  n1 : e.nx < e.nx2
  n2 : e.nx2 ≤ 1000000000000
  bl : ∀ p ∈ e.bl, p.1 < e.nx ∧ p.2.liveB = true ∧ shortB p.2 = true ∧ ∃ l, nmM p.2 [] = some l ∧ ∀ x ∈ l, Small x → lk e.bl x ≠ none
  d : ∀ p ∈ e.d, p.1 < e.nx2 ∧ (e.nx ≤ p.1 ∨ lk e.bl p.1 ≠ none)
  args : ∃ st vis, nmL (nm 8) e.args [] = some st ∧ (∀ x ∈ st, Small x → lk e.bl x ≠ none) ∧ dfs (mkM e.bl) 1000000000 st .nil = some vis ∧ ∀ p ∈ e.bl, vis.get p.1 ≠ none

theorem Ent.Fit.of {e : Ent} (he : e.fitB = true) : e.Fit := by
  unfold Ent.fitB at he
  rw [memK_eq] at he
  simp only [Bool.and_eq_true, List.all_eq_true] at he
  obtain ⟨⟨⟨⟨h1, h2⟩, h3⟩, h4⟩, h5⟩ := he
  have h1 := lt_of_ble h1; have h2 := ble_t h2
  have sm : ∀ p ∈ e.bl, Small p.1 := fun p hp => by have := lt_of_ble (h3 p hp).1.1.1; unfold Small; omega
  have key : ∀ x, Small x → (mkM e.bl).get x ≠ none → lk e.bl x ≠ none := by
    intro x hx hg
    rwa [mkM_get sm hx] at hg
  refine ⟨h1, h2, fun p hp => ?_, fun p hp => ?_, ?_⟩
  · obtain ⟨⟨⟨a, b⟩, c⟩, d⟩ := h3 p hp
    refine ⟨lt_of_ble a, b, c, ?_⟩
    split at d <;> try contradiction
    rename_i l hl
    exact ⟨l, hl, fun x hx hsx => key x hsx (keysB_mem d x hx)⟩
  · obtain ⟨a, d⟩ := h4 p hp
    refine ⟨lt_of_ble a, ?_⟩
    simp only [Bool.or_eq_true] at d
    rcases d with d | d
    · exact .inl (ble_t d)
    · right
      unfold isKeyB at d
      split at d <;> try contradiction
      rename_i m hm
      exact key p.1 (by have := lt_of_ble a; unfold Small; omega) (by rw [hm]; simp)
  · split at h5 <;> try contradiction
    rename_i st hst
    simp only [Bool.and_eq_true] at h5
    obtain ⟨k1, k2⟩ := h5
    split at k2 <;> try contradiction
    rename_i vis hvis
    refine ⟨st, vis, hst, fun x hx hsx => key x hsx (keysB_mem k1 x hx), hvis, fun p hp => ?_⟩
    rw [List.all_eq_true] at k2
    have := k2 p hp
    split at this <;> try contradiction
    rename_i u hu
    rw [hu]; simp

noncomputable def Ent.hp (e : Ent) : Heap := ⟨e.nx, mkTo e.bl .nil, 0⟩
noncomputable def Ent.hp2 (e : Ent) : Heap := ⟨e.nx2, mkTo e.d (mkTo e.bl .nil), 0⟩

theorem Ent.Fit.smB {e : Ent} (hf : e.Fit) : ∀ p ∈ e.bl, Small p.1 := fun p hp => by have := (hf.bl p hp).1; have := hf.n1; have := hf.n2; unfold Small; omega
theorem Ent.Fit.smD {e : Ent} (hf : e.Fit) : ∀ p ∈ e.d, Small p.1 := fun p hp => by have := (hf.d p hp).1; have := hf.n2; unfold Small; omega
theorem Ent.Fit.get {e : Ent} (hf : e.Fit) {b : Nat} (hb : Small b) : e.hp.bl.get b = (lk e.bl b).map MObj.obj := by
  show (mkTo e.bl .nil).get b = _
  rw [mkTo_get hf.smB hb]
  cases lk e.bl b with
  | none => simp [T.get_nil]
  | some m => rfl
theorem Ent.Fit.get2 {e : Ent} (hf : e.Fit) {b : Nat} (hb : Small b) : e.hp2.bl.get b = match lk e.d b with | some m => some m.obj | none => (lk e.bl b).map MObj.obj := by
  show (mkTo e.d _).get b = _
  rw [mkTo_get hf.smD hb]
  cases lk e.d b with
  | none => exact hf.get hb
  | some m => rfl

theorem MObj.liveB_live {m : MObj} (hm : m.liveB = true) : m.obj.live := by
  cases m <;> first | trivial | cases hm
theorem shortB_le {m : MObj} (hm : shortB m = true) : ∀ cs ety op, m = .cells cs ety op → cs.length ≤ 4611686018427387904 := by
  rintro cs ety op rfl
  have := ble_t (a := cs.length) hm
  omega

/-- each of its blocks has a place -/
theorem Ent.Fit.placed {e : Ent} (hf : e.Fit) (hdom : ∀ b, φ b ≠ none → Small b) (hob : ∀ b m pl, lk e.bl b = some m → φ b = some pl → ∃ O, OR P φ m.obj pl O) {args' : List Value} (ha : F2 (VR φ) e.args args') :
    ∀ b, Small b → lk e.bl b ≠ none → φ b ≠ none := by
  obtain ⟨st, vis, h1, _, h3, h4⟩ := hf.args
  have hst := nmL_ok (nm_ok 8) e.args [] st h1 φ (fun i v hi => by obtain ⟨v', _, hv⟩ := ha.get i v hi; exact ⟨v', hv⟩)
  have := dfs_ok (mt := mkM e.bl) hdom (fun b m hg hb acc out hn x hx => by
    rw [mkM_get hf.smB (hdom b hb)] at hg
    cases hp : φ b with
    | none => exact absurd hp hb
    | some pl =>
      obtain ⟨O, hO⟩ := hob b m pl hg hp
      exact (nmM_ok hn hO (shortB_le (hf.bl _ (lk_mem hg)).2.2.1)).2.1 x hx) 1000000000 st .nil vis h3 (fun x hx => by
        rcases hst.2.1 x hx with h | h
        · cases h
        · exact h) (fun b _ hg => by rw [T.get_nil] at hg; exact absurd rfl hg)
  intro b hb hl
  cases hq : lk e.bl b with
  | none => exact absurd hq hl
  | some m => exact this b hb (h4 _ (lk_mem hq))

/-! ## an entry is so -/
def EntOk (P : Program) (e : Ent) : Prop := ∀ (φ : Emb) (w : World) (args' : List Value), F2 (VR φ) e.args args' → HR P φ e.hp w →
  CallTo (fun p : Prop => p) P φ e.hp w (fun v h => v = e.v ∧ h = e.hp2) e.f args'.toArray

/-- the blocks at the call's end, as the entry has them -/
noncomputable def Ent.endB (e : Ent) (h : Heap) : Bool :=
  Nat.ble h.nx e.nx2 && (e.d.all fun p => sameObj (h.bl.get p.1) p.2) && memK e.d fun dt => e.bl.all fun p => match dt.get p.1 with
    | some _ => true
    | none => sameObj (h.bl.get p.1) p.2

noncomputable def Ent.runB (e : Ent) (pr : Prims Bool) (P : Program) (fuel : Nat) : Bool :=
  updK e.bl .nil fun bl => callF false noPr P (run false pr P fuel) e.f e.args ⟨e.nx, bl, 0⟩ fun v h => veq 8 v e.v && e.endB h

theorem Ent.ok (hm : P.follows .mixedOrders = true) {pr : Prims Bool} (hp : PrimsOk yes pr P) {e : Ent} (hf : e.Fit) {fuel : Nat} (hrun : e.runB pr P fuel = true) : EntOk P e := by
  intro φ w args' ha hr
  unfold Ent.runB at hrun
  rw [updK_eq] at hrun
  have hc := callF_sound (good := yes) (w := w) yes_not (noPrims (P := P)) (run_sound yes_not hp (draw_sound yes_not hp hm) fuel).1 ha hr hrun
  refine ⟨hc.1, Calls.mono hc.2 ?_⟩
  rintro en w' ⟨φ', v, v', h', rfl, g1, g2, g3, g4⟩
  have hdomS : ∀ (ψ : Emb) (hh : Heap) (ww : World), HR P ψ hh ww → ∀ b, ψ b ≠ none → Small b := by
    intro ψ hh ww hrr b hb
    cases hq : ψ b with
    | none => exact absurd hq hb
    | some pl => have := (hrr.dom b pl hq).1; have := hrr.nxs; unfold Small; omega
  have g1 : (veq 8 v e.v && e.endB h') = true := g1
  simp only [Ent.endB, Bool.and_eq_true, List.all_eq_true] at g1
  obtain ⟨gv, ⟨gn, gd⟩, gb⟩ := g1
  have gv := veq_eq 8 _ _ gv
  have gn := ble_t gn
  rw [memK_eq, List.all_eq_true] at gb
  subst gv
  have n1 := hf.n1; have n2 := hf.n2
  -- each block of the end is as the run left it
  have each : ∀ b o, Small b → e.hp2.bl.get b = some o → ∃ m, o = m.obj ∧ sameObj (h'.bl.get b) m = true := by
    intro b o hb ho
    rw [hf.get2 hb] at ho
    cases hq : lk e.d b with
    | some m =>
      rw [hq] at ho; cases ho
      exact ⟨m, rfl, gd _ (lk_mem hq)⟩
    | none =>
      rw [hq] at ho
      cases hq2 : lk e.bl b with
      | none => rw [hq2] at ho; cases ho
      | some m =>
        rw [hq2] at ho; cases ho
        refine ⟨m, rfl, ?_⟩
        have := gb _ (lk_mem hq2)
        rw [mkM_get hf.smD hb, hq] at this
        exact this
  have hplaced := hf.placed (φ := φ) (P := P) (hdomS φ _ _ hr) (fun b m pl hl hp => by
    have hsb := hdomS φ _ _ hr b (by rw [hp]; simp)
    exact ⟨_, hr.obj b m.obj pl (by rw [hf.get hsb, hl]; rfl) hp⟩) ha
  refine ⟨φ', e.v, v', e.hp2, rfl, ⟨rfl, rfl⟩, g2, ⟨?_, ?_, ?_, ?_, ?_, Nat.zero_le _⟩, ⟨g4.sub, g4.new, Nat.le_of_lt n1, g4.size, g4.frC, ?_, g4.tape, g4.os, g4.output, g4.fz, rfl, ?_, fun _ _ _ hb => absurd hb (Nat.not_lt_zero _), g4.dr⟩⟩
  · intro b o pl ho hp
    obtain ⟨m, rfl, hs⟩ := each b o (hdomS φ' _ _ g3 b (by rw [hp]; simp)) ho
    obtain ⟨o', e1, _, e3⟩ := sameObj_OR (P := P) (φ := φ') hs
    exact e3 (g3.obj b o' pl e1 hp)
  · intro b pl hp; have := g3.dom b pl hp; exact ⟨Nat.lt_of_lt_of_le this.1 gn, this.2⟩
  · intro b o hb ho
    rw [hf.get2 hb] at ho
    show b < e.nx2
    cases hq : lk e.d b with
    | some m => exact (hf.d _ (lk_mem hq)).1
    | none =>
      rw [hq] at ho
      cases hq2 : lk e.bl b with
      | none => rw [hq2] at ho; cases ho
      | some m => have := (hf.bl _ (lk_mem hq2)).1; simp only at this; omega
  · exact Nat.lt_succ_self _
  · intro b b' o o' pl pl' q1 q2 l1 l2 p1 p2 eB
    obtain ⟨m, rfl, hs⟩ := each b o (hdomS φ' _ _ g3 b (by rw [p1]; simp)) q1
    obtain ⟨m', rfl, hs'⟩ := each b' o' (hdomS φ' _ _ g3 b' (by rw [p2]; simp)) q2
    obtain ⟨o1, e1, e2, _⟩ := sameObj_OR (P := P) (φ := φ') hs
    obtain ⟨o2, f1, f2, _⟩ := sameObj_OR (P := P) (φ := φ') hs'
    exact g3.inj b b' o1 o2 pl pl' e1 f1 (e2.1 l1) (f2.1 l2) p1 p2 eB
  · intro b hb hn
    have hb' : b < e.nx := hb
    have hsb : Small b := by unfold Small; omega
    rw [hf.get2 hsb, hf.get hsb]
    cases hq : lk e.d b with
    | none => rfl
    | some m =>
      rcases (hf.d _ (lk_mem hq)).2 with h1 | h1
      · simp only at h1; omega
      · exact absurd hn (hplaced b hsb h1)
  · intro b hb; exact absurd hb (Nat.not_lt_zero _)

/-! ## an entry is taken -/
theorem sameObj_back {o : AObj} {m : MObj} (hs : sameObj (some o) m = true) (hl : m.liveB = true) (hsh : shortB m = true) {pl : Pl} {O : Option Obj} (hO : OR P φ m.obj pl O) : OR P φ o pl O := by
  unfold sameObj at hs
  split at hs <;> try contradiction
  · rename_i n c e op cs e' op' heq
    cases heq
    simp only [Bool.and_eq_true] at hs
    obtain ⟨⟨⟨h1, h2⟩, h3⟩, h4⟩ := hs
    have h1 := beq_t h1; have h2 := beq_t h2; have h3 : op = op' := by simpa using h3
    subst h1; subst h2; subst h3
    cases O with
    | none => exact hO.elim
    | some O =>
      cases O <;> simp only [MObj.obj, OR] at hO ⊢
      obtain ⟨g1, g2, g3, g4, g5, g6⟩ := hO
      refine ⟨g1, g2, g3, g4, g5, fun i v hg hi => ?_⟩
      have hget : cs[i]? = some (cs[i]'hi) := List.getElem?_eq_getElem hi
      have := sameCells_get h4 i _ hget
      rw [Nat.zero_add, hg] at this
      cases this
      refine g6 i _ ?_ hi
      rw [get_lay cs .nil 0 (by omega) i (by unfold Small; omega), if_pos (by omega)]
      simp
  · rename_i es clock es' clock' heq
    cases heq
    simp only [Bool.and_eq_true] at hs
    have h1 := sameEntries_eq hs.1; have h2 := beq_t hs.2
    subst h1; subst h2
    exact hO

noncomputable def Ent.useB (fl : β) (e : Ent) (args : List Value) (h : Heap) (κ : Value → Heap → β) : β :=
  match veqL (veq 8) args e.args && Nat.beq h.lo 0 && e.bl.all fun p => sameObj (h.bl.get p.1) p.2 with
  | true => updK e.d h.bl fun bl => κ e.v ⟨e.nx2, bl, 0⟩
  | false => fl

noncomputable def useT (fl : β) (tab : List Ent) (f : Nat) (args : List Value) (h : Heap) (κ : Value → Heap → β) : β :=
  match tab with
  | [] => fl
  | e :: tab => match Nat.beq e.nx h.nx && Nat.beq e.f f with
    | true => e.useB fl args h κ
    | false => useT fl tab f args h κ

noncomputable def prTab (fl : β) (base : Prims β) (cut : Nat → Bool) (tab : List Ent) : Prims β :=
  ⟨fun f => match cut f with | true => some (useT fl tab f) | false => base.fn f, base.both⟩

theorem Ent.use_sound (hfl : ¬ good fl) {e : Ent} (hf : e.Fit) (he : EntOk P e) (hnx : e.nx = h.nx) (hr : HR P φ h w) {args args' : List Value} (ha : F2 (VR φ) args args') {κ : Value → Heap → β} (hg : good (e.useB fl args h κ)) :
    CallTo good P φ h w κ e.f args'.toArray := by
  unfold Ent.useB at hg
  split at hg <;> try exact absurd hg hfl
  rename_i hc
  simp only [Bool.and_eq_true, List.all_eq_true] at hc
  obtain ⟨⟨c1, c2⟩, c3⟩ := hc
  have c1 := veqL_eq (veq_eq 8) _ _ c1; have c2 := beq_t c2
  subst c1
  rw [updK_eq] at hg
  have n1 := hf.n1; have n2 := hf.n2
  have hsm : ∀ b, φ b ≠ none → Small b := by
    intro b hb
    cases hq : φ b with
    | none => exact absurd hq hb
    | some pl => have := (hr.dom b pl hq).1; have := hr.nxs; unfold Small; omega
  -- the blocks that the call may reach
  let ψ : Emb := fun b => match lk e.bl b with | some _ => φ b | none => none
  have ψ_some : ∀ {b pl}, ψ b = some pl → φ b = some pl ∧ ∃ m, lk e.bl b = some m := by
    intro b pl hb
    simp only [ψ] at hb
    split at hb
    · rename_i m hm; exact ⟨hb, m, hm⟩
    · cases hb
  have ψ_eq : ∀ {b}, lk e.bl b ≠ none → ψ b = φ b := by
    intro b hb
    simp only [ψ]
    split
    · rfl
    · rename_i hq; exact absurd hq hb
  have subψ : Sub ψ φ := fun b pl hb => (ψ_some hb).1
  have same : ∀ {b m}, lk e.bl b = some m → ∃ o, h.bl.get b = some o ∧ sameObj (some o) m = true ∧ o.live := by
    intro b m hm
    have hs := c3 _ (lk_mem hm)
    obtain ⟨o, e1, e2, _⟩ := sameObj_OR (P := P) (φ := φ) hs
    simp only at e1
    exact ⟨o, e1, by rw [← e1]; exact hs, e2.1 (MObj.liveB_live (hf.bl _ (lk_mem hm)).2.1)⟩
  have oldOR : ∀ {b m pl}, lk e.bl b = some m → φ b = some pl → OR P φ m.obj pl w.heap[pl.B]? := by
    intro b m pl hm hp
    have hs := c3 _ (lk_mem hm)
    obtain ⟨o, e1, _, e3⟩ := sameObj_OR (P := P) (φ := φ) hs
    exact e3 (hr.obj b o pl e1 hp)
  have hrS : HR P ψ e.hp w := by
    refine ⟨?_, ?_, ?_, ?_, ?_, Nat.zero_le _⟩
    · intro b o pl ho hp
      obtain ⟨hp, m, hm⟩ := ψ_some hp
      rw [hf.get (hsm b (by rw [hp]; simp)), hm] at ho
      cases ho
      obtain ⟨_, _, hsh, l, hl, hk⟩ := hf.bl _ (lk_mem hm)
      refine (nmM_ok hl (oldOR hm hp) (shortB_le hsh)).2.2 ψ fun x hx hxp => ψ_eq (hk x hx (hsm x hxp))
    · intro b pl hp
      have := hr.dom b pl (ψ_some hp).1
      exact ⟨by show b < e.nx; omega, this.2⟩
    · intro b o hb ho
      rw [hf.get hb] at ho
      cases hq : lk e.bl b with
      | none => rw [hq] at ho; cases ho
      | some m => exact (hf.bl _ (lk_mem hq)).1
    · exact Nat.lt_succ_self _
    · intro b b' o o' pl pl' g1 g2 l1 l2 p1 p2 eB
      obtain ⟨p1, m1, k1⟩ := ψ_some p1
      obtain ⟨p2, m2, k2⟩ := ψ_some p2
      obtain ⟨o1, x1, _, y1⟩ := same k1
      obtain ⟨o2, x2, _, y2⟩ := same k2
      exact hr.inj b b' o1 o2 pl pl' x1 x2 y1 y2 p1 p2 eB
  have haS : F2 (VR ψ) e.args args' := by
    obtain ⟨st, _, hst, hk, _, _⟩ := hf.args
    have hn := nmL_ok (nm_ok 8) e.args [] st hst φ (fun i v hi => by obtain ⟨v', _, hv⟩ := ha.get i v hi; exact ⟨v', hv⟩)
    refine F2.of_get ha.length fun i v v' hi hi' => ?_
    obtain ⟨v2, e2, hv⟩ := ha.get i v hi
    rw [hi'] at e2; cases e2
    exact hn.2.2 ψ (fun x hx hxp => ψ_eq (hk x hx (hsm x hxp))) i v v' hi hv
  have hc := he ψ w args' haS hrS
  refine ⟨hc.1, Calls.mono hc.2 ?_⟩
  rintro en w' ⟨φ1, v, v', h1, rfl, ⟨rfl, rfl⟩, g2, g3, g4⟩
  -- all places
  let χ : Emb := fun b => match φ1 b with | some pl => some pl | none => φ b
  have χ_new : ∀ {b pl}, φ1 b = some pl → χ b = some pl := fun {b pl} hb => by simp only [χ, hb]
  have χ_old : ∀ {b}, φ1 b = none → χ b = φ b := fun {b} hb => by simp only [χ, hb]
  have sub1 : Sub φ1 χ := fun b pl hb => χ_new hb
  have fresh : ∀ {b pl}, φ1 b = some pl → ψ b = none → e.nx ≤ b := fun {b pl} hb hn => (g4.new b pl hn hb).1
  have sub0 : Sub φ χ := by
    intro b pl hb
    cases hq : φ1 b with
    | none => rw [χ_old hq]; exact hb
    | some p =>
      rw [χ_new hq]
      cases hs : ψ b with
      | none => have := fresh hq hs; have := (hr.dom b pl hb).1; omega
      | some p' =>
        have e1 := (ψ_some hs).1
        rw [hb] at e1; cases e1
        have := g4.sub b pl hs
        rw [hq] at this; exact this
  -- a name that only stands outside
  have outer : ∀ {b pl}, φ1 b = none → φ b = some pl → lk e.bl b = none := by
    intro b pl h1 hb
    cases hq : lk e.bl b with
    | none => rfl
    | some m =>
      have hs : ψ b = some pl := by rw [ψ_eq (by rw [hq]; simp)]; exact hb
      have := g4.sub b pl hs
      rw [h1] at this; cases this
  have getD : ∀ {b}, Small b → (mkTo e.d h.bl).get b = match lk e.d b with | some m => some m.obj | none => h.bl.get b := fun {b} hb => mkTo_get hf.smD hb
  have dKey : ∀ {b m}, lk e.d b = some m → e.nx ≤ b ∨ lk e.bl b ≠ none := fun {b m} hb => (hf.d _ (lk_mem hb)).2
  -- of a block with a place at the call's end: the object there
  have there : ∀ {b o pl}, Small b → (mkTo e.d h.bl).get b = some o → φ1 b = some pl → ∃ m, e.hp2.bl.get b = some m.obj ∧ (o = m.obj ∨ (sameObj (some o) m = true ∧ m.liveB = true ∧ shortB m = true)) ∧ (o.live → m.obj.live) := by
    intro b o pl hb ho hp
    rw [getD hb] at ho
    cases hq : lk e.d b with
    | some m =>
      rw [hq] at ho; cases ho
      exact ⟨m, by rw [hf.get2 hb, hq], .inl rfl, id⟩
    | none =>
      rw [hq] at ho
      cases hs : ψ b with
      | none => have := fresh hp hs; have := hr.keys b o hb ho; omega
      | some p' =>
        obtain ⟨_, m, hm⟩ := ψ_some hs
        obtain ⟨o2, x1, x2, _⟩ := same hm
        simp only at ho
        rw [ho] at x1; cases x1
        have hl := (hf.bl _ (lk_mem hm)).2.1
        exact ⟨m, by rw [hf.get2 hb, hq, hm]; rfl, .inr ⟨x2, hl, (hf.bl _ (lk_mem hm)).2.2.1⟩, fun _ => MObj.liveB_live hl⟩
  have aside : ∀ {b o pl}, Small b → (mkTo e.d h.bl).get b = some o → φ1 b = none → φ b = some pl → h.bl.get b = some o ∧ (o.live → ∀ b0 pl0, ψ b0 = some pl0 → pl0.B ≠ pl.B) := by
    intro b o pl hb ho h1 hp
    have hout := outer h1 hp
    rw [getD hb] at ho
    cases hq : lk e.d b with
    | some m =>
      rcases dKey hq with k | k
      · have := (hr.dom b pl hp).1; omega
      · exact absurd hout k
    | none =>
      rw [hq] at ho
      refine ⟨ho, fun hl b0 pl0 h0 eB => ?_⟩
      obtain ⟨h0, m, hm⟩ := ψ_some h0
      obtain ⟨o0, x1, _, x3⟩ := same hm
      have := hr.inj b0 b o0 o pl0 pl x1 ho x3 hl h0 hp eB
      subst this
      rw [hm] at hout; cases hout
  have hsm1 : ∀ b pl, χ b = some pl → Small b := by
    intro b pl hb
    cases hq : φ1 b with
    | none => rw [χ_old hq] at hb; exact hsm b (by rw [hb]; simp)
    | some p => have := (g3.dom b p hq).1; have := g3.nxs; unfold Small; omega
  refine ⟨χ, _, _, ⟨e.nx2, mkTo e.d h.bl, 0⟩, rfl, hg, g2.mono sub1, ⟨?_, ?_, ?_, ?_, ?_, Nat.zero_le _⟩, ⟨sub0, ?_, ?_, g4.size, ?_, ?_, g4.tape, g4.os, g4.output, g4.fz, c2.symm, ?_, fun b _ _ hb => absurd hb (by omega), g4.dr⟩⟩
  · intro b o pl ho hp
    have hb := hsm1 b pl hp
    cases hq : φ1 b with
    | some p =>
      rw [χ_new hq] at hp; cases hp
      obtain ⟨m, k1, k3, _⟩ := there hb ho hq
      have hO := (g3.obj b m.obj _ k1 hq).mono sub1
      rcases k3 with rfl | ⟨k3, k2, k4⟩
      · exact hO
      · exact sameObj_back k3 k2 k4 hO
    | none =>
      rw [χ_old hq] at hp
      obtain ⟨k1, k2⟩ := aside hb ho hq hp
      have hO := (hr.obj b o pl k1 hp).mono sub0
      by_cases hl : o.live
      · rw [g4.frC pl.B (hr.dom b pl hp).2 (k2 hl)]; exact hO
      · cases o <;> first | exact absurd trivial hl | skip
        simpa only [OR] using hO
  · intro b pl hp
    cases hq : φ1 b with
    | some p => rw [χ_new hq] at hp; cases hp; exact g3.dom b _ hq
    | none =>
      rw [χ_old hq] at hp
      have := hr.dom b pl hp
      exact ⟨by show b < e.nx2; omega, Nat.lt_of_lt_of_le this.2 g4.size⟩
  · intro b o hb ho
    show b < e.nx2
    simp only at ho
    rw [getD hb] at ho
    cases hq : lk e.d b with
    | some m => exact (hf.d _ (lk_mem hq)).1
    | none => rw [hq] at ho; have := hr.keys b o hb ho; omega
  · exact Nat.lt_succ_self _
  · intro b b' o o' pl pl' q1 q2 l1 l2 p1 p2 eB
    have hb := hsm1 b pl p1; have hb' := hsm1 b' pl' p2
    have mixed : ∀ {x y ox oy px py}, Small x → Small y → (mkTo e.d h.bl).get x = some ox → (mkTo e.d h.bl).get y = some oy → ox.live → oy.live → φ1 x = some px → φ1 y = none → φ y = some py → px.B = py.B → x = y := by
      intro x y ox oy px py hx hy gx gy lx ly e1 e2 e3 eB
      obtain ⟨_, k2⟩ := aside hy gy e2 e3
      cases hs : ψ x with
      | some p =>
        have := g4.sub x p hs
        rw [e1] at this; cases this
        exact absurd eB (k2 ly x px hs)
      | none =>
        rcases (g4.new x px hs e1).2 with h3 | ⟨b0, pl0, h3, h4⟩
        · have := (hr.dom y py e3).2; omega
        · exact absurd (h4.trans eB) (k2 ly b0 pl0 h3)
    cases r1 : φ1 b with
    | some s1 =>
      rw [χ_new r1] at p1; cases p1
      cases r2 : φ1 b' with
      | some s2 =>
        rw [χ_new r2] at p2; cases p2
        obtain ⟨m, k1, _, k4⟩ := there hb q1 r1
        obtain ⟨m', k1', _, k4'⟩ := there hb' q2 r2
        exact g3.inj b b' _ _ _ _ k1 k1' (k4 l1) (k4' l2) r1 r2 eB
      | none =>
        rw [χ_old r2] at p2
        exact mixed hb hb' q1 q2 l1 l2 r1 r2 p2 eB
    | none =>
      rw [χ_old r1] at p1
      cases r2 : φ1 b' with
      | some s2 =>
        rw [χ_new r2] at p2; cases p2
        exact (mixed hb' hb q2 q1 l2 l1 r2 r1 p1 eB.symm).symm
      | none =>
        rw [χ_old r2] at p2
        exact hr.inj b b' o o' pl pl' (aside hb q1 r1 p1).1 (aside hb' q2 r2 p2).1 l1 l2 p1 p2 eB
  · intro b pl hn hb
    cases hq : φ1 b with
    | none => rw [χ_old hq, hn] at hb; cases hb
    | some p =>
      rw [χ_new hq] at hb; cases hb
      have hs : ψ b = none := by
        cases hs : ψ b with
        | none => rfl
        | some p' => have := (ψ_some hs).1; rw [hn] at this; cases this
      obtain ⟨k1, k2⟩ := g4.new b _ hs hq
      refine ⟨by have : e.nx ≤ b := k1; omega, ?_⟩
      rcases k2 with k2 | ⟨b0, pl0, k2, k3⟩
      · exact .inl k2
      · exact .inr ⟨b0, pl0, (ψ_some k2).1, k3⟩
  · show h.nx ≤ e.nx2; omega
  · intro B hB hn
    exact g4.frC B hB fun b pl hb => hn b pl (ψ_some hb).1
  · intro b hb hn
    have hsb : Small b := by have := hr.nxs; unfold Small; omega
    show (mkTo e.d h.bl).get b = h.bl.get b
    rw [getD hsb]
    cases hq : lk e.d b with
    | none => rfl
    | some m =>
      rcases dKey hq with k | k
      · omega
      · have hpl := hf.placed (φ := φ) (P := P) hsm (fun b m pl hl hp => ⟨_, oldOR hl hp⟩) ha b hsb k
        exact absurd hn hpl
  · intro b hb; rw [c2] at hb; exact absurd hb (Nat.not_lt_zero _)

theorem useT_sound (hfl : ¬ good fl) : ∀ {tab : List Ent}, (∀ e ∈ tab, e.Fit ∧ EntOk P e) → ∀ {f : Nat}, HR P φ h w → ∀ {args args' : List Value}, F2 (VR φ) args args' → ∀ {κ : Value → Heap → β}, good (useT fl tab f args h κ) → CallTo good P φ h w κ f args'.toArray := by
  intro tab
  induction tab with
  | nil => intro _ f _ args args' _ κ hg; exact absurd hg hfl
  | cons e tab ih =>
    intro ht f hr args args' ha κ hg
    simp only [useT] at hg
    split at hg
    · rename_i hc
      simp only [Bool.and_eq_true] at hc
      have c1 := beq_t hc.1; have c2 := beq_t hc.2
      subst c2
      obtain ⟨h1, h2⟩ := ht e (by simp)
      exact Ent.use_sound hfl h1 h2 c1 hr ha hg
    · exact ih (fun e he => ht e (by simp [he])) hr ha hg

theorem prTab_ok (hfl : ¬ good fl) {base : Prims β} (hb : PrimsOk good base P) {cut : Nat → Bool} {tab : List Ent} (ht : ∀ e ∈ tab, e.Fit ∧ EntOk P e) : PrimsOk good (prTab fl base cut tab) P := by
  refine ⟨hb.both, fun f g hg args args' h φ w κ ha hr hgood => ?_⟩
  simp only [prTab] at hg
  split at hg
  · cases hg; exact useT_sound hfl ht hr ha hgood
  · exact hb.fn f g hg args args' h φ w κ ha hr hgood

/-- one entry, by its own run -/
theorem Ent.both (hm : P.follows .mixedOrders = true) {pr : Prims Bool} (hp : PrimsOk yes pr P) {e : Ent} {fuel : Nat} (hrun : (e.fitB && e.runB pr P fuel) = true) : e.Fit ∧ EntOk P e := by
  simp only [Bool.and_eq_true] at hrun
  exact ⟨.of hrun.1, e.ok hm hp (.of hrun.1) hrun.2⟩
theorem okNil : ∀ e ∈ ([] : List Ent), e.Fit ∧ EntOk P e := fun _ he => nomatch he
theorem okCons {e : Ent} {tab : List Ent} (h : e.Fit ∧ EntOk P e) (ht : ∀ x ∈ tab, x.Fit ∧ EntOk P x) : ∀ x ∈ e :: tab, x.Fit ∧ EntOk P x := List.forall_mem_cons.2 ⟨h, ht⟩

/-! ## short names for the texts of entries -/
def vi (n : Nat) : Value := .int .i64 (.ofNat n)
def vn (n : Nat) : Value := .int .i64 (.negSucc n)
def vb (n : Nat) : Value := .int .u8 (.ofNat n)
def vt : Value := .bool true
def vf : Value := .bool false
def vu : Value := .tuple ⟨[]⟩
def vp (b o : Nat) : Value := .pointer (some ⟨b, o, none⟩)
def pn : Value := .pointer none
def vs (b o n c : Nat) : Value := .slice (some ⟨b, o, none⟩) n c
def sn : Value := .slice none 0 0
def va (l : List Value) : Value := .agg ⟨l⟩
def vv (l : List Value) : Value := .tuple ⟨l⟩
def mc (e : Nat) (l : List Value) : MObj := .cells l e false
def mo (e : Nat) (l : List Value) : MObj := .cells l e true

/-- a list of blocks, some set, some left out; both by growing numbers -/
def mergeF : Nat → List (Nat × Option MObj) → List (Nat × MObj) → List (Nat × MObj)
  | 0, _, l => l
  | _ + 1, [], l => l
  | k + 1, (b, o) :: d, [] => match o with
    | some m => (b, m) :: mergeF k d []
    | none => mergeF k d []
  | k + 1, (b, o) :: d, (c, m) :: l => match Nat.ble (Nat.succ c) b with
    | true => (c, m) :: mergeF k ((b, o) :: d) l
    | false => match Nat.beq b c with
      | true => match o with
        | some m' => (b, m') :: mergeF k d l
        | none => mergeF k d l
      | false => match o with
        | some m' => (b, m') :: mergeF k d ((c, m) :: l)
        | none => mergeF k d ((c, m) :: l)
/-- the blocks of one entry, out of another's -/
def turned (d : List (Nat × Option MObj)) (l : List (Nat × MObj)) : List (Nat × MObj) := mergeF 1000000 d l
end Go.Vai

namespace Go.Vai
open Go
/-! ## a call that answers a new slice: what lay before lies as it lay, its own blocks are forgotten -/
theorem callNew {β : Type} {good : β → Prop} {P : Program} {φ : Emb} {h : Heap} {w : World} {f : FuncId} {args args' : List Value} {N M : Nat} {e : TypeId} (hc : CallW P f args ⟨h.nx, h.bl, h.nx⟩ fun v h' => ∃ b vs, v = .slice (some ⟨b, 0, none⟩) N openCap ∧ h.nx ≤ b ∧ h'.bl.get b = some (cellsO vs e true) ∧ vs.length = M)
    (ha : F2 (VR φ) args args') (hr : HR P φ h w) {κ : Value → Heap → β} (hk : good (κ (.slice (some ⟨h.nx, 0, none⟩) N openCap) ⟨h.nx + 1, h.bl.upd h.nx (.dead M e), h.lo⟩)) : CallTo good P φ h w κ f args'.toArray := by
  have hr0 : HR P φ ⟨h.nx, h.bl, h.nx⟩ w := ⟨hr.obj, hr.dom, hr.keys, hr.nxs, hr.inj, Nat.le_refl _⟩
  obtain ⟨c1, c2⟩ := hc φ w args' ha hr0
  refine ⟨c1, c2.mono ?_⟩
  rintro ex w' ⟨φ', v, v', h', rfl, ⟨b, vs, rfl, hb, hcell, hM⟩, hv, hr', hx⟩
  have hxnx : h.nx ≤ h'.nx := hx.nx
  have hob : ∀ {pl : Pl}, φ' b = some pl → M ≤ pl.sz ∧ M ≤ 4611686018427387904 ∧ szOf P e = some pl.e ∧ 0 < pl.e := by
    intro pl hp
    obtain ⟨C, hC, k1, k2, k3, _⟩ := hr'.rowAt (show h'.bl.get b = some (.cells vs.length _ e true) from hcell) hp
    obtain ⟨k4, k5, k6⟩ := k3 rfl
    exact ⟨by omega, by omega, k5, k6⟩
  have main : ∀ (pl : Pl), φ' b = some pl → VR (addPl φ h.nx pl) (.slice (some ⟨h.nx, 0, none⟩) N openCap) v' → ∃ φ'' v v'' h'', (Ending.returned v' : Ending) = .returned v'' ∧ good (κ v h'') ∧ VR φ'' v v'' ∧ HR P φ'' h'' w' ∧ Ext φ φ'' h h'' w w' := by
    intro pl hp hvv
    have hnone : φ h.nx = none := by
      cases hq : φ h.nx with
      | none => rfl
      | some p => have := (hr.dom _ _ hq).1; omega
    have hsub := addPl_sub (pl := pl) hnone
    have gne : ∀ x, x < h.nx → (h.bl.upd h.nx (.dead M e)).get x = h.bl.get x := fun x hx => T.get_updne _ _ (by omega)
    refine ⟨addPl φ h.nx pl, _, v', ⟨h.nx + 1, h.bl.upd h.nx (.dead M e), h.lo⟩, rfl, hk, hvv, ⟨?_, ?_, ?_, Nat.lt_succ_self _, ?_, Nat.le_succ_of_le hr.lo⟩, ⟨hsub, ?_, Nat.le_succ _, hx.size, hx.frC, fun x hx _ => gne x hx, hx.tape, hx.os, hx.output, hx.fz, rfl, fun x hx => gne x (Nat.lt_of_lt_of_le hx hr.lo), fun x o px hx1 => hx.frW x o px (Nat.lt_of_lt_of_le hx1 hr.lo), hx.dr⟩⟩
    · intro x o px ho hpx
      unfold addPl at hpx
      split at hpx
      · rename_i he; subst he; cases hpx
        rw [T.get_upd_same] at ho; cases ho
        have := hob hp
        simpa only [OR] using this
      · have hd := hr.dom x px hpx
        have ho' : h.bl.get x = some o := (gne x hd.1) ▸ ho
        have hO := (hr.obj x o px ho' hpx).mono hsub
        by_cases hl : o.live
        · rw [hx.frW x o px hd.1 ho' hl hpx hd.2]; exact hO
        · cases o <;> first | exact absurd trivial hl | skip
          simpa only [OR] using hO
    · intro x px hpx
      unfold addPl at hpx
      split at hpx
      · rename_i he; subst he; cases hpx; exact ⟨Nat.lt_succ_self _, (hr'.dom b _ hp).2⟩
      · have := hr.dom x px hpx; exact ⟨Nat.lt_succ_of_lt this.1, Nat.lt_of_lt_of_le this.2 hx.size⟩
    · intro x o hsx ho
      show x < h.nx + 1
      by_cases hq : h.nx = x
      · omega
      · have := hr.keys x o hsx ((T.get_updne _ _ hq) ▸ ho); omega
    · intro x x' o1 o2 p1 p2 g1 g2 l1 l2 e1 e2 eB
      unfold addPl at e1 e2
      split at e1
      · rename_i he; subst he
        rw [T.get_upd_same] at g1; cases g1; exact l1.elim
      · split at e2
        · rename_i he; subst he
          rw [T.get_upd_same] at g2; cases g2; exact l2.elim
        · exact hr.inj x x' o1 o2 p1 p2 ((gne x (hr.dom x p1 e1).1) ▸ g1) ((gne x' (hr.dom x' p2 e2).1) ▸ g2) l1 l2 e1 e2 eB
    · intro x px e0 e1
      unfold addPl at e1
      split at e1
      · rename_i he; subst he; cases e1
        refine ⟨Nat.le_refl _, ?_⟩
        have hbn : φ b = none := by
          cases hq : φ b with
          | none => rfl
          | some p => have := (hr.dom _ _ hq).1; omega
        exact (hx.new b pl hbn hp).2
      · rw [e0] at e1; cases e1
  cases hv with
  | slice hp hn hcc => exact absurd hcc (Nat.lt_irrefl _)
  | sliceOpen hp hn hcc => exact main _ hp (.sliceOpen (addPl_same _ _ _) hn hcc)
end Go.Vai

namespace Go.Vai
open Go
variable {P : Program} {w : World}

theorem cell_row {B : Nat} {C : Array Value} {e : TypeId} (hC : w.heap[B]? = some (.cells C e (0, 0))) (o j : Nat) : w.cell? ((⟨B, o, none⟩ : Addr).add j) = C[o + j]? := by
  rw [addr_add]
  simp [World.cell?, hC]

/-- the first elements of a slice over a row -/
theorem run_first_row {B o k m n c : Nat} {C : Array Value} {e : TypeId} (hC : w.heap[B]? = some (.cells C e (0, 0))) (hle : o + m * k ≤ C.size) :
    (Builtin.firstCells k m (.slice (some ⟨B, o, none⟩) n c)).run P w = .ok ((C.toList.drop o).take (m * k)).toArray w := by
  have hlen : ((C.toList.drop o).take (m * k)).length = m * k := by simp; omega
  have := run_loadCells_list (P := P) w ⟨B, o, none⟩ ((C.toList.drop o).take (m * k)) fun j v hj => by
    rw [cell_row hC]
    rw [List.getElem?_take] at hj
    split at hj
    · simpa [List.getElem?_drop] using hj
    · cases hj
  rw [hlen] at this
  exact this

/-- a copy into a row -/
theorem run_copy_row_at {tS e k ty D o dl dc n c : Nat} {a : Option Addr} {l' : List Value} {R : Array Value} (hu : P.underlying tS = some (.slice e)) (hs : szOf P e = some k)
    (hf : (Builtin.firstCells k (Nat.min n dl) (.slice a n c)).run P w = .ok l'.toArray w) (hR : w.heap[D]? = some (.cells R e (0, 0))) (hfit : o + l'.length ≤ R.size) (hone : ∀ v ∈ l', v.oneCell' = true) :
    (Builtin.copy_ #[tS, tS] ty #[.slice (some ⟨D, o, none⟩) dl dc, .slice a n c]).run P w = .ok (goInt (Nat.min n dl)) (w.setRow D (R.toList.take o ++ l' ++ R.toList.drop (o + l'.length)).toArray) := by
  have h1 := run_storeCells_at P D o e l' 0 R w hR (by simpa using hfit) hone
  simp only [Nat.add_zero] at h1
  simp [Builtin.copy_, run_und hu, run_size hs, Builtin.lenOf, hf, h1, goInt]

/-- what stood behind moved on, and the new laid in -/
theorem shift_take (L : List Value) (a b N : Nat) (h1 : a ≤ N) (h2 : N + b ≤ L.length) : (L.take (a + b) ++ (L.drop a).take (N - a) ++ L.drop (N + b)).take a = (L.take N).take a := by
  rw [List.append_assoc, List.take_append_of_le_length (by simp; omega), List.take_take, List.take_take]
  congr 1; omega
theorem shift_drop (L : List Value) (a b N : Nat) (h1 : a ≤ N) (h2 : N + b ≤ L.length) : (L.take (a + b) ++ (L.drop a).take (N - a) ++ L.drop (N + b)).drop (a + b) = (L.take N).drop a ++ L.drop (N + b) := by
  rw [List.append_assoc, List.drop_left' (by simp; omega), List.drop_take]
end Go.Vai

namespace Go.Proofs
open Go.Shelf Go.RowKit Go.Lib Go.Vai

set_option maxHeartbeats 4000000 in
set_option maxRecDepth 100000 in
theorem f222_atEnd (base : Option Addr) (n c VB vo m vc : Nat) (w : World) (r : Value) (w' : World) (hm : 0 < m) (hle : n ≤ c)
    (hr : (Builtin.append_ #[138, 138] 138 #[.slice base n c, .slice (some ⟨VB, vo, none⟩) m vc]).run Tryz.prog w = .ok r w') :
    Calls Tryz.prog 222 #[.slice base n c, .int .i64 n, .slice (some ⟨VB, vo, none⟩) m vc] w fun e w'' => e = .returned r ∧ w'' = w' := by
  have hz1 : ¬ ((m : Int) = 0) := by omega
  go_enter Tryz.func222, Tryz.ntmps222
  go_wp2_with (at_builtin; refine Lib.wpList_append_run _ rfl _ _ 138 138 rfl _ _ rfl rfl _ _ hr ?_)
  all_goals go_ret
  all_goals exact ⟨rfl, rfl⟩

theorem und138 : Tryz.prog.underlying 138 = some (.slice 347) := Tryz.underlying138
theorem sz347 : szOf Tryz.prog 347 = some 4 := by kernel_rfl

set_option maxHeartbeats 4000000 in
set_option maxRecDepth 100000 in
theorem f222_shift (B n c i VB vo m vc : Nat) (C VC : Array Value) (e2 : TypeId) (new : List Value) (w : World) (hne : B ≠ VB) (hi : i < n) (hm : 0 < m) (hroom : n + m ≤ c) (hsm : n + m ≤ 1000000)
    (hC : w.heap[B]? = some (.cells C 347 (0, 0))) (hV : w.heap[VB]? = some (.cells VC e2 (0, 0))) (hcs : c * 4 ≤ C.size)
    (hf : ∀ w1 : World, w1.heap[VB]? = w.heap[VB]? → (Builtin.firstCells 4 m (.slice (some ⟨VB, vo, none⟩) m vc)).run Tryz.prog w1 = .ok new.toArray w1) (hnl : new.length = m * 4) (h1v : ∀ v ∈ new, v.oneCell' = true) (h1c : ∀ v ∈ C.toList.take (n * 4), v.oneCell' = true) :
    Calls Tryz.prog 222 #[.slice (some ⟨B, 0, none⟩) n c, .int .i64 i, .slice (some ⟨VB, vo, none⟩) m vc] w fun e w'' => e = .returned (.slice (some ⟨B, 0, none⟩) (n + m) c) ∧
      ∃ d, w.drawn ≤ d ∧ w'' = { w.setRow B (((C.toList.take (n * 4)).take (i * 4) ++ new ++ (C.toList.take (n * 4)).drop (i * 4)) ++ C.toList.drop ((n + m) * 4)).toArray with drawn := d } := by
  have mixed := mixed
  have hz1 : ¬ ((m : Int) = 0) := by omega
  have hz2 : ¬ ((i : Int) = (n : Int)) := by omega
  have hw1 : IntKind.i64.wrap ((i : Int) + (m : Int)) = (i : Int) + (m : Int) := by rw [IntKind.wrap_i64]; omega
  have hw2 : IntKind.i64.wrap ((n : Int) + (m : Int)) = (n : Int) + (m : Int) := by rw [IntKind.wrap_i64]; omega
  have hb1 : (0 : Int) ≤ (i : Int) + (m : Int) := by omega
  have hin : i ≤ n := by omega
  have htn : ((i : Int) + (m : Int)).toNat = i + m := by omega
  have hb2 : ¬ (c = i + m) := by omega
  have hb3 : (i : Int) ≤ (n : Int) + (m : Int) := by omega
  have hb4 : ¬ (c = i) := by omega
  have hB : C.size ≠ 0 := by omega
  have hfzB : ∀ j, w.frozen? ⟨B, j, none⟩ = false := fun j => by simp [World.frozen?, hC]
  have hfzV : ∀ j, w.frozen? ⟨VB, j, none⟩ = false := fun j => by simp [World.frozen?, hV]
  have hov : ∀ lb cb, (callFunc 269 #[.slice (some ⟨VB, vo, none⟩) m vc, .slice (some ⟨B, (i + m) * 4, none⟩) lb cb]).run Tryz.prog w = .ok (.value (.bool false)) w := fun lb cb => by
    rw [run_callFunc_extern Tryz.func269 (by kernel_rfl) (by kernel_rfl) (by kernel_rfl) (e := Extern.SlicesOverlaps.overlaps #[138, 138] #[4]) (by kernel_rfl),
      Lib.run_overlaps_apart w 138 4 347 und138 4 (fun w => run_size sz347) ⟨VB, vo, none⟩ ⟨B, (i + m) * 4, none⟩ m vc lb cb (fun e => hne e.symm) e2 347 VC.size C.size (by simp [World.shape?, hV]) (by simp [World.shape?, hC]) hB (hfzV _) (hfzV _)]
    rfl
  have hnc : (n + m) * 4 ≤ C.size := by omega
  have hCd : w.drew.heap[B]? = some (.cells C 347 (0, 0)) := hC
  have hl1 : ((C.toList.drop (i * 4)).take ((n - i) * 4)).length = (n - i) * 4 := by simp; omega
  have hcp1 : ∀ ty dc sc, (Builtin.copy_ #[138, 138] ty #[.slice (some ⟨B, (i + m) * 4, none⟩) (n + m - (i + m)) dc, .slice (some ⟨B, i * 4, none⟩) (n + m - i) sc]).run Tryz.prog w.drew = .ok (goInt ((n - i : Nat))) (w.drew.setRow B (C.toList.take ((i + m) * 4) ++ (C.toList.drop (i * 4)).take ((n - i) * 4) ++ C.toList.drop ((n + m) * 4)).toArray) := fun ty dc sc => by
    have hmin : Nat.min (n + m - i) (n + m - (i + m)) = n - i := by simp only [Nat.min_def]; split <;> omega
    have h := run_copy_row_at (P := Tryz.prog) (w := w.drew) (ty := ty) (D := B) (o := (i + m) * 4) (dl := n + m - (i + m)) (dc := dc) (n := n + m - i) (c := sc) (a := some ⟨B, i * 4, none⟩) (l' := (C.toList.drop (i * 4)).take ((n - i) * 4)) und138 sz347
      (by rw [hmin]; exact run_first_row hCd (by omega)) hCd (by rw [hl1]; omega) (fun v hv => h1c v (by
        rw [List.mem_iff_getElem?] at hv ⊢
        obtain ⟨j, hj⟩ := hv
        rw [List.getElem?_take] at hj
        split at hj
        · rw [List.getElem?_drop] at hj
          exact ⟨i * 4 + j, by rw [List.getElem?_take_of_lt (by omega)]; exact hj⟩
        · cases hj))
    rw [hmin, hl1, show (i + m) * 4 + (n - i) * 4 = (n + m) * 4 by omega] at h
    exact h
  obtain ⟨R1, hR1⟩ : ∃ R1 : Array Value, R1 = (C.toList.take ((i + m) * 4) ++ (C.toList.drop (i * 4)).take ((n - i) * 4) ++ C.toList.drop ((n + m) * 4)).toArray := ⟨_, rfl⟩
  rw [← hR1] at hcp1
  have hR1s : R1.size = C.size := by rw [hR1]; simp; omega
  obtain ⟨W1, hW1⟩ : ∃ W1, W1 = w.drew.setRow B R1 := ⟨_, rfl⟩
  obtain ⟨R2, hR2⟩ : ∃ R2 : Array Value, R2 = (((C.toList.take (n * 4)).take (i * 4) ++ new ++ (C.toList.take (n * 4)).drop (i * 4)) ++ C.toList.drop ((n + m) * 4)).toArray := ⟨_, rfl⟩
  have hW1B : W1.heap[B]? = some (.cells R1 347 (0, 0)) := by rw [hW1]; exact setRow_heap w.drew B C R1 347 (0, 0) hCd
  have hW1V : W1.heap[VB]? = w.heap[VB]? := by rw [hW1]; exact setRow_other w.drew B VB R1 (fun e => hne e.symm)
  have hcp2 : ∀ (W : World), W.heap = W1.heap → ∀ ty dc, (Builtin.copy_ #[138, 138] ty #[.slice (some ⟨B, i * 4, none⟩) (n + m - i) dc, .slice (some ⟨VB, vo, none⟩) m vc]).run Tryz.prog W = .ok (goInt m) (W.setRow B R2) := fun W hW ty dc => by
    have hmin : Nat.min m (n + m - i) = m := by simp only [Nat.min_def]; split <;> omega
    have h := run_copy_row_at (P := Tryz.prog) (w := W) (ty := ty) (D := B) (o := i * 4) (dl := n + m - i) (dc := dc) (n := m) (c := vc) (a := some ⟨VB, vo, none⟩) (l' := new) und138 sz347
      (by rw [hmin]; exact hf W (by rw [hW]; exact hW1V)) (by rw [hW]; exact hW1B) (by rw [hnl]; omega) h1v
    rw [hmin] at h
    have hrow : (R1.toList.take (i * 4) ++ new ++ R1.toList.drop (i * 4 + new.length)).toArray = R2 := by
      rw [hR2, hR1, hnl]
      have e1 := shift_take C.toList (i * 4) (m * 4) (n * 4) (by omega) (by simp; omega)
      have e2 := shift_drop C.toList (i * 4) (m * 4) (n * 4) (by omega) (by simp; omega)
      rw [← Nat.add_mul, ← Nat.add_mul, ← Nat.sub_mul] at e1 e2
      rw [List.toList_toArray, e1, ← Nat.add_mul, e2, List.append_assoc, List.append_assoc, List.append_assoc]
    rw [hrow] at h
    exact h
  rw [← hW1] at hcp1
  rw [← hR2]
  go_enter Tryz.func222, Tryz.ntmps222
  go_wp2_with (simp only [hov])
  go_region_law_o (refine step_copy_runI rfl _ _ 138 138 rfl _ _ (by simp [Act.eval, Act.put]) (by simp [Act.eval, Act.put]) (hcp1 _ _ _) ?_)
  go_wp2_with (at_builtin; refine wpList_copy_runI _ rfl _ _ 138 138 rfl _ _ rfl rfl (hcp2 _ rfl _ _) ?_)
  go_ret
  refine ⟨rfl, w.drawn + 1, Nat.le_succ _, ?_⟩
  rw [setRow_setRow, hR2]
  simp only [List.append_assoc]
  rfl
end Go.Proofs

namespace Go.Proofs
open Go.Shelf Go.RowKit Go.Lib Go.Vai

theorem grow_list (C Z R new : List Value) (a b N : Nat) (h1 : a ≤ N) (h2 : N ≤ C.length) (hn : new.length = b) (hz : Z.length = N + b - a) :
    (((C.take a ++ Z ++ R).take a ++ new ++ (C.take a ++ Z ++ R).drop (a + b)).take (a + b) ++ (C.drop a).take (N - a) ++ ((C.take a ++ Z ++ R).take a ++ new ++ (C.take a ++ Z ++ R).drop (a + b)).drop (N + b)) =
      ((C.take N).take a ++ new ++ (C.take N).drop a) ++ R := by
  have la : (C.take a).length = a := by simp; omega
  have e1 : (C.take a ++ Z ++ R).take a = C.take a := by rw [List.append_assoc, List.take_append_of_le_length (by omega), List.take_take]; congr 1; omega
  have e2 : (C.take N).take a = C.take a := by rw [List.take_take]; congr 1; omega
  have e3 : (C.take N).drop a = (C.drop a).take (N - a) := by rw [List.drop_take]
  have l2 : (C.take a ++ new).length = a + b := by simp; omega
  have e4 : (C.take a ++ new ++ (C.take a ++ Z ++ R).drop (a + b)).take (a + b) = C.take a ++ new := List.take_left' l2
  have e5 : (C.take a ++ new ++ (C.take a ++ Z ++ R).drop (a + b)).drop (N + b) = R := by
    have hs : N + b = (a + b) + (N - a) := by omega
    rw [hs, ← List.drop_drop, List.drop_left' l2, List.drop_drop]
    exact List.drop_left' (by simp; omega)
  rw [e1, e4, e5, e2, e3]

set_option maxHeartbeats 4000000 in
set_option maxRecDepth 100000 in
/-- the walk of the third road: the append and the two copies as they run -/
theorem f222_grow_walk (B n c i VB vo m vc G N : Nat) (R1 R2 : Array Value) (w W1 : World) (hi : i < n) (hm : 0 < m) (hnc : n ≤ c) (hroom : c < n + m) (hsm : n + m ≤ 1000000) (hG1 : n + m ≤ G)
    (hrz : (Builtin.append_ #[138, 3] 138 #[.slice (some ⟨B, 0, none⟩) i c, .int .i64 ((n : Int) + (m : Int) - (i : Int))]).run Tryz.prog w = .ok (.slice (some ⟨N, 0, none⟩) (n + m) G) W1)
    (hcpA : ∀ (W : World), W.heap = W1.heap → ∀ ty dc, (Builtin.copy_ #[138, 138] ty #[.slice (some ⟨N, i * 4, none⟩) (n + m - i) dc, .slice (some ⟨VB, vo, none⟩) m vc]).run Tryz.prog W = .ok (goInt m) (W.setRow N R1))
    (hcpB : ∀ (W : World), W.heap = (W1.setRow N R1).heap → ∀ ty dc sc, (Builtin.copy_ #[138, 138] ty #[.slice (some ⟨N, (i + m) * 4, none⟩) (n + m - (i + m)) dc, .slice (some ⟨B, i * 4, none⟩) (n - i) sc]).run Tryz.prog W = .ok (goInt ((n - i : Nat))) (W.setRow N R2)) :
    Calls Tryz.prog 222 #[.slice (some ⟨B, 0, none⟩) n c, .int .i64 i, .slice (some ⟨VB, vo, none⟩) m vc] w fun e' w'' =>
      e' = .returned (.slice (some ⟨N, 0, none⟩) (n + m) G) ∧ w'' = (W1.setRow N R1).drew.setRow N R2 := by
  have mixed := mixed
  have hz1 : ¬ ((m : Int) = 0) := by omega
  have hz2 : ¬ ((i : Int) = (n : Int)) := by omega
  have hz3 : (c : Int) < (n : Int) + (m : Int) := by omega
  have hGi : ¬ (G = i) := by omega
  have hGim : ¬ (G = i + m) := by omega
  have hci : ¬ (c = i) := by omega
  have hw1 : IntKind.i64.wrap ((i : Int) + (m : Int)) = (i : Int) + (m : Int) := by rw [IntKind.wrap_i64]; omega
  have hw2 : IntKind.i64.wrap ((n : Int) + (m : Int)) = (n : Int) + (m : Int) := by rw [IntKind.wrap_i64]; omega
  have hw3 : IntKind.i64.wrap ((n : Int) + (m : Int) - (i : Int)) = (n : Int) + (m : Int) - (i : Int) := by rw [IntKind.wrap_i64]; omega
  have hb1 : (0 : Int) ≤ (i : Int) + (m : Int) := by omega
  have hin : i ≤ n := by omega
  have hinc : i ≤ c := by omega
  have htn : ((i : Int) + (m : Int)).toNat = i + m := by omega
  have hb3 : (i : Int) ≤ (n : Int) := by omega
  go_enter Tryz.func222, Tryz.ntmps222
  go_wp2_with (first
    | (at_builtin; refine Lib.wpList_append_run _ rfl _ _ 138 3 rfl _ _ rfl rfl _ _ hrz ?_)
    | (at_builtin; refine wpList_copy_runI _ rfl _ _ 138 138 rfl _ _ rfl rfl (hcpA _ rfl _ _) ?_))
  go_region_law_o (refine step_copy_runI rfl _ _ 138 138 rfl (.slice (some ⟨N, (i + m) * 4, none⟩) (n + m - (i + m)) (G - (i + m))) (.slice (some ⟨B, i * 4, none⟩) (n - i) (c - i)) (by simp [Act.eval, Act.put]) (by simp [Act.eval, Act.put]) (hcpB (W1.setRow N R1).drew rfl 3 (G - (i + m)) (c - i)) ?_)
  go_wp2
  go_ret
  exact ⟨rfl, rfl⟩

set_option maxHeartbeats 4000000 in
set_option maxRecDepth 100000 in
theorem f222_grow (B n c i VB vo m vc : Nat) (C VC : Array Value) (e2 : TypeId) (new : List Value) (w : World) (hne : B ≠ VB) (hi : i < n) (hm : 0 < m) (hnc : n ≤ c) (hroom : c < n + m) (hsm : n + m ≤ 1000000)
    (hC : w.heap[B]? = some (.cells C 347 (0, 0))) (hV : w.heap[VB]? = some (.cells VC e2 (0, 0))) (hcs : n * 4 ≤ C.size)
    (hf : ∀ w1 : World, w1.heap[VB]? = w.heap[VB]? → (Builtin.firstCells 4 m (.slice (some ⟨VB, vo, none⟩) m vc)).run Tryz.prog w1 = .ok new.toArray w1) (hnl : new.length = m * 4) (h1v : ∀ v ∈ new, v.oneCell' = true) (h1c : ∀ v ∈ C.toList.take (n * 4), v.oneCell' = true)
    {inf : TypeInfo} {z : Value} (hinf : Tryz.prog.info? 347 = some inf) (hz : inf.zero = some z) (hzc : z.cells.size = 4) (hby : inf.bytes ≤ 10000) (h3 : Tryz.prog.underlying 3 = some (.int .i64)) :
    Calls Tryz.prog 222 #[.slice (some ⟨B, 0, none⟩) n c, .int .i64 i, .slice (some ⟨VB, vo, none⟩) m vc] w fun e' w'' => ∃ newCap rest d, w.drawn ≤ d ∧ n + m ≤ newCap ∧ rest.length = (newCap - (n + m)) * 4 ∧
      e' = .returned (.slice (some ⟨w.heap.size, 0, none⟩) (n + m) newCap) ∧
      w'' = { w.alloc (.cells (((C.toList.take (n * 4)).take (i * 4) ++ new ++ (C.toList.take (n * 4)).drop (i * 4)) ++ rest).toArray 347 (0, 0)) with drawn := d } := by
  have mixed := mixed
  have hz1 : ¬ ((m : Int) = 0) := by omega
  have hz2 : ¬ ((i : Int) = (n : Int)) := by omega
  have hz3 : (c : Int) < (n : Int) + (m : Int) := by omega
  have hkk : (n : Int) + (m : Int) - (i : Int) = ((n + m - i : Nat) : Int) := by omega
  have hik : i + (n + m - i) = n + m := by omega
  have hzs : (Builtin.zeroCells z.cells (n + m - i)).size = (n + m - i) * 4 := by rw [size_zeroCells, hzc]
  obtain ⟨G, rest, hG1, hrl, hrz⟩ := run_append_fresh (P := Tryz.prog) (w := w) (e := 347) (size := 4) (n := n + m - i) (sLen := i) (sCap := c) (ty := 138) (ts := #[138, 3]) (base := some ⟨B, 0, none⟩) (x' := .int .i64 ((n + m - i : Nat) : Int))
    (new' := (Builtin.zeroCells z.cells (n + m - i)).toList) (old' := C.toList.take (i * 4)) (t := 138) rfl und138 sz347 hinf hz hby
    (.mk (k' := .i64) (inf := inf) (v := z) rfl h3 (by omega) hinf hz hby (by simp) (by intro h; omega)) (by omega) (by omega)
    (fun w1 hw1 => by
      have := run_first_row (P := Tryz.prog) (w := w1) (B := B) (o := 0) (k := 4) (m := i) (n := i) (c := c) (C := C) (e := 347) (by rw [hw1]; exact hC) (by omega)
      simpa using this)
  rw [hik, hzc] at hrl
  rw [hik] at hG1 hrz
  rw [← hkk] at hrz
  obtain ⟨Z, hZ⟩ : ∃ Z, Z = (Builtin.zeroCells z.cells (n + m - i)).toList := ⟨_, rfl⟩
  have hZl : Z.length = (n + m - i) * 4 := by rw [hZ]; simpa using hzs
  rw [← hZ] at hrz
  obtain ⟨ROW, hROW⟩ : ∃ ROW : Array Value, ROW = (C.toList.take (i * 4) ++ Z ++ rest).toArray := ⟨_, rfl⟩
  rw [← hROW] at hrz
  have hRs : (n + m) * 4 ≤ ROW.size := by rw [hROW]; simp [hZl]; omega
  obtain ⟨W1, hW1⟩ : ∃ W1, W1 = w.drew.alloc (.cells ROW 347 (0, 0)) := ⟨_, rfl⟩
  rw [← hW1] at hrz
  have hBl : B < w.heap.size := (Array.getElem?_eq_some_iff.mp hC).1
  have hVl : VB < w.heap.size := (Array.getElem?_eq_some_iff.mp hV).1
  have hW1N : W1.heap[w.heap.size]? = some (.cells ROW 347 (0, 0)) := by rw [hW1]; show (w.heap.push _)[w.heap.size]? = _; simp
  have hW1o : ∀ k, k < w.heap.size → W1.heap[k]? = w.heap[k]? := fun k hk => by rw [hW1]; exact alloc_get_lt (w := w.drew) hk
  obtain ⟨R1, hR1⟩ : ∃ R1 : Array Value, R1 = (ROW.toList.take (i * 4) ++ new ++ ROW.toList.drop (i * 4 + m * 4)).toArray := ⟨_, rfl⟩
  have hR1s : R1.size = ROW.size := by rw [hR1]; simp [hnl]; omega
  have hl1 : ((C.toList.drop (i * 4)).take ((n - i) * 4)).length = (n - i) * 4 := by simp; omega
  obtain ⟨R2, hR2⟩ : ∃ R2 : Array Value, R2 = (R1.toList.take ((i + m) * 4) ++ (C.toList.drop (i * 4)).take ((n - i) * 4) ++ R1.toList.drop ((n + m) * 4)).toArray := ⟨_, rfl⟩
  have hcpA : ∀ (W : World), W.heap = W1.heap → ∀ ty dc, (Builtin.copy_ #[138, 138] ty #[.slice (some ⟨w.heap.size, i * 4, none⟩) (n + m - i) dc, .slice (some ⟨VB, vo, none⟩) m vc]).run Tryz.prog W = .ok (goInt m) (W.setRow w.heap.size R1) := fun W hW ty dc => by
    have hmin : Nat.min m (n + m - i) = m := by simp only [Nat.min_def]; split <;> omega
    have h := run_copy_row_at (P := Tryz.prog) (w := W) (ty := ty) (D := w.heap.size) (o := i * 4) (dl := n + m - i) (dc := dc) (n := m) (c := vc) (a := some ⟨VB, vo, none⟩) (l' := new) und138 sz347
      (by rw [hmin]; exact hf W (by rw [hW]; exact hW1o VB hVl)) (by rw [hW]; exact hW1N) (by rw [hnl]; omega) h1v
    rw [hmin, hnl, ← hR1] at h
    exact h
  have hcpB : ∀ (W : World), W.heap = (W1.setRow w.heap.size R1).heap → ∀ ty dc sc, (Builtin.copy_ #[138, 138] ty #[.slice (some ⟨w.heap.size, (i + m) * 4, none⟩) (n + m - (i + m)) dc, .slice (some ⟨B, i * 4, none⟩) (n - i) sc]).run Tryz.prog W = .ok (goInt ((n - i : Nat))) (W.setRow w.heap.size R2) := fun W hW ty dc sc => by
    have hmin : Nat.min (n - i) (n + m - (i + m)) = n - i := by simp only [Nat.min_def]; split <;> omega
    have hWB : W.heap[B]? = some (.cells C 347 (0, 0)) := by rw [hW, setRow_other W1 w.heap.size B R1 (by omega), hW1o B hBl]; exact hC
    have hWN : W.heap[w.heap.size]? = some (.cells R1 347 (0, 0)) := by rw [hW]; exact setRow_heap W1 w.heap.size ROW R1 347 (0, 0) hW1N
    have h := run_copy_row_at (P := Tryz.prog) (w := W) (ty := ty) (D := w.heap.size) (o := (i + m) * 4) (dl := n + m - (i + m)) (dc := dc) (n := n - i) (c := sc) (a := some ⟨B, i * 4, none⟩) (l' := (C.toList.drop (i * 4)).take ((n - i) * 4)) und138 sz347
      (by rw [hmin]; exact run_first_row hWB (by omega)) hWN (by rw [hl1]; omega) (fun v hv => h1c v (by
        rw [List.mem_iff_getElem?] at hv ⊢
        obtain ⟨j, hj⟩ := hv
        rw [List.getElem?_take] at hj
        split at hj
        · rw [List.getElem?_drop] at hj
          exact ⟨i * 4 + j, by rw [List.getElem?_take_of_lt (by omega)]; exact hj⟩
        · cases hj))
    rw [hmin, hl1, show (i + m) * 4 + (n - i) * 4 = (n + m) * 4 by omega, ← hR2] at h
    exact h
  refine (f222_grow_walk B n c i VB vo m vc G w.heap.size R1 R2 w W1 hi hm hnc hroom hsm hG1 hrz hcpA hcpB).mono ?_
  rintro e' w'' ⟨rfl, rfl⟩
  refine ⟨G, rest, w.drawn + 2, Nat.le_add_right _ _, hG1, hrl, rfl, ?_⟩
  have hfin : R2 = (((C.toList.take (n * 4)).take (i * 4) ++ new ++ (C.toList.take (n * 4)).drop (i * 4)) ++ rest).toArray := by
    rw [hR2, hR1, hROW]
    congr 1
    have := grow_list C.toList Z rest new (i * 4) (m * 4) (n * 4) (by omega) (by simpa using hcs) hnl (by rw [hZl]; omega)
    rw [← Nat.sub_mul, ← Nat.add_mul, ← Nat.add_mul] at this
    rw [← Nat.add_mul]
    exact this
  rw [hW1, hfin]
  have ed : ∀ (X : World) (g : Nat) (R : Array Value), X.drew.setRow g R = (X.setRow g R).drew := fun _ _ _ => rfl
  have ea : ∀ (A R : Array Value), (w.drew.alloc (.cells A 347 (0, 0))).setRow w.heap.size R = w.drew.alloc (.cells R 347 (0, 0)) := fun A R => World.setRow_alloc_new w.drew A R 347
  rw [ed, setRow_setRow, ea]
  rfl
end Go.Proofs

namespace Go.Vai
open Go
variable {β : Type} {fl : β} {good : β → Prop} {P : Program} {φ : Emb} {h : Heap} {w : World}

/-- of a slice whose capacity is known: there is no room -/
noncomputable def insertX (fl : β) (e size : Nat) (base : Option Addr) (n cap i vb vo m vc : Nat) (h : Heap) (κ : Value → Heap → β) : β :=
  match Nat.ble (i + 1) n, Nat.ble cap 1000000000 && Nat.ble (cap + 1) (n + (m + 1)), base with
  | true, true, some ⟨b, 0, none⟩ => match Nat.beq vb b, h.bl.get b, h.bl.get vb with
    | false, some (.cells _ _ e' _), some (.cells ..) => match Nat.beq e' e, Nat.ble (n + (m + 1)) 1000000 with
      | true, true => firstB fl h size n (.slice (some ⟨b, 0, none⟩) n cap) fun old => firstB fl h size (m + 1) (.slice (some ⟨vb, vo, none⟩) (m + 1) vc) fun new =>
          match old.all oneC && new.all oneC with
          | true => newCells fl (old.take (i * size) ++ new ++ old.drop (i * size)) e true h fun nb h => κ (.slice (some ⟨nb, 0, none⟩) (n + (m + 1)) openCap) h
          | false => fl
      | _, _ => fl
    | _, _, _ => fl
  | _, _, _ => fl

/-- slices.Insert at elements of 'size' cells: at the end it is an append; else the new cells lie in a block of their own, and the old block is dead -/
noncomputable def insertB (fl : β) (both : β → β → β) (e size : Nat) (z : List Value) (args : List Value) (h : Heap) (κ : Value → Heap → β) : β :=
  match args with
  | [.slice base n cap, .int .i64 (.ofNat i), .slice (some ⟨vb, vo, none⟩) (m + 1) vc] =>
    match Nat.beq i n with
    | true => appendB fl both e size z false (.slice base n cap) (.slice (some ⟨vb, vo, none⟩) (m + 1) vc) h κ
    | false => match Nat.beq cap openCap with
      | false => insertX fl e size base n cap i vb vo m vc h κ
      | true => match Nat.ble (i + 1) n, Nat.beq cap openCap, base with
        | true, true, some ⟨b, 0, none⟩ => match Nat.beq vb b, h.bl.get b, h.bl.get vb with
          | false, some (.cells nn _ e' true), some (.cells ..) => match Nat.beq e' e, Nat.ble (n + (m + 1)) 1000000 with
            | true, true => firstB fl h size n (.slice base n cap) fun old => firstB fl h size (m + 1) (.slice (some ⟨vb, vo, none⟩) (m + 1) vc) fun new =>
                match old.all oneC && new.all oneC with
                | true => setBlock fl b (.dead nn e) h fun h => newCells fl (old.take (i * size) ++ new ++ old.drop (i * size)) e true h fun nb h => κ (.slice (some ⟨nb, 0, none⟩) (n + (m + 1)) openCap) h
                | false => fl
            | _, _ => fl
          | _, _, _ => fl
        | _, _, _ => fl
  | _ => fl

/-- what a function that is slices.Insert does: its element has k cells -/
structure InsertFn (P : Program) (f : FuncId) (tS e k : Nat) : Prop where
  enters : ∀ (args : Array Value) (w : World), (callFunc f args).run P w = .ok (.enter f args) w
  atEnd : ∀ (base : Option Addr) (n c VB vo m vc : Nat) (w : World) (r : Value) (w' : World), 0 < m → n ≤ c →
    (Builtin.append_ #[tS, tS] tS #[.slice base n c, .slice (some ⟨VB, vo, none⟩) m vc]).run P w = .ok r w' →
    Calls P f #[.slice base n c, .int .i64 n, .slice (some ⟨VB, vo, none⟩) m vc] w fun e w'' => e = .returned r ∧ w'' = w'
  shift : ∀ (B n c i VB vo m vc : Nat) (C VC : Array Value) (e2 : TypeId) (new : List Value) (w : World), B ≠ VB → i < n → 0 < m → n + m ≤ c → n + m ≤ 1000000 →
    w.heap[B]? = some (.cells C e (0, 0)) → w.heap[VB]? = some (.cells VC e2 (0, 0)) → c * k ≤ C.size → (∀ w1 : World, w1.heap[VB]? = w.heap[VB]? → (Builtin.firstCells k m (.slice (some ⟨VB, vo, none⟩) m vc)).run P w1 = .ok new.toArray w1) →
    new.length = m * k → (∀ v ∈ new, v.oneCell' = true) → (∀ v ∈ C.toList.take (n * k), v.oneCell' = true) →
    Calls P f #[.slice (some ⟨B, 0, none⟩) n c, .int .i64 i, .slice (some ⟨VB, vo, none⟩) m vc] w fun e w'' => e = .returned (.slice (some ⟨B, 0, none⟩) (n + m) c) ∧
      ∃ d, w.drawn ≤ d ∧ w'' = { w.setRow B (((C.toList.take (n * k)).take (i * k) ++ new ++ (C.toList.take (n * k)).drop (i * k)) ++ C.toList.drop ((n + m) * k)).toArray with drawn := d }
  grow : ∀ (B n c i VB vo m vc : Nat) (C VC : Array Value) (e2 : TypeId) (new : List Value) (w : World), B ≠ VB → i < n → 0 < m → n ≤ c → c < n + m → n + m ≤ 1000000 →
    w.heap[B]? = some (.cells C e (0, 0)) → w.heap[VB]? = some (.cells VC e2 (0, 0)) → n * k ≤ C.size → (∀ w1 : World, w1.heap[VB]? = w.heap[VB]? → (Builtin.firstCells k m (.slice (some ⟨VB, vo, none⟩) m vc)).run P w1 = .ok new.toArray w1) →
    new.length = m * k → (∀ v ∈ new, v.oneCell' = true) → (∀ v ∈ C.toList.take (n * k), v.oneCell' = true) →
    Calls P f #[.slice (some ⟨B, 0, none⟩) n c, .int .i64 i, .slice (some ⟨VB, vo, none⟩) m vc] w fun e' w'' => ∃ newCap rest d, w.drawn ≤ d ∧ n + m ≤ newCap ∧ rest.length = (newCap - (n + m)) * k ∧
      e' = .returned (.slice (some ⟨w.heap.size, 0, none⟩) (n + m) newCap) ∧
      w'' = { w.alloc (.cells (((C.toList.take (n * k)).take (i * k) ++ new ++ (C.toList.take (n * k)).drop (i * k)) ++ rest).toArray e (0, 0)) with drawn := d }

set_option maxHeartbeats 2000000 in
set_option maxRecDepth 100000 in
theorem insertX_sound (hfl : ¬ good fl) {f tS e size : Nat} {z : List Value} (hI : InsertFn P f tS e size) (hz : zOf P e = some (z, size))
    (hr : HR P φ h w) {base base' : Option Addr} {n cap cap' i vb vo m vc vc' : Nat} {plv : Pl} (hs : VR φ (.slice base n cap) (.slice base' n cap')) (hpv : φ vb = some plv) (hv : VR φ (.slice (some ⟨vb, vo, none⟩) (m + 1) vc) (.slice (some ⟨plv.B, vo, none⟩) (m + 1) vc'))
    {κ : Value → Heap → β} (hg : good (insertX fl e size base n cap i vb vo m vc h κ)) : CallTo good P φ h w κ f #[.slice base' n cap', .int .i64 (.ofNat i), .slice (some ⟨plv.B, vo, none⟩) (m + 1) vc'] := by
  obtain ⟨hz1, hz2, hz3, hz4⟩ := zOf_sound hz
  unfold insertX at hg
  split at hg <;> try exact absurd hg hfl
  rename_i b hlt hcc
  simp only [Bool.and_eq_true] at hcc
  have hlt : i < n := ble_t hlt
  have hc1 : cap ≤ 1000000000 := ble_t hcc.1
  have hc2 : cap < n + (m + 1) := ble_t hcc.2
  obtain ⟨pl, hp, rfl, rfl, hle⟩ : ∃ pl, φ b = some pl ∧ cap' = cap ∧ base' = some ⟨pl.B, 0, none⟩ ∧ n ≤ cap := by
    cases hs with
    | slice hp hn hc => exact ⟨_, hp, rfl, rfl, hn⟩
    | sliceOpen hp hn hc => exact absurd hc1 (by decide)
    | sliceAny => exact absurd hc1 (by decide)
    | sliceEnd => exact absurd hc1 (by decide)
  split at hg <;> try exact absurd hg hfl
  rename_i nn cc e' op nv cv ev opv hne hb hvb
  have hne := beq_f hne
  split at hg <;> try exact absurd hg hfl
  rename_i hee hsm
  have hee := beq_t hee; subst hee
  have hsm : n + (m + 1) ≤ 1000000 := ble_t hsm
  obtain ⟨C, hC, hn1, hn2, hopn, hcell⟩ := hr.rowAt hb hp
  obtain ⟨VC, hVC, hv1, _, _, _⟩ := hr.rowAt hvb hpv
  have hBne : pl.B ≠ plv.B := fun hB => hne (hr.inj b vb _ _ pl plv hb hvb trivial trivial hp hpv hB).symm
  obtain ⟨old, k1, k3, k5, k6⟩ := firstB_cells hfl hb hg
  obtain ⟨new, new', n1, n2, n3, n4⟩ := firstB_sound hfl hr k1 hv ⟨_, _, _, rfl, Nat.le_refl _⟩
  split at n1 <;> try exact absurd n1 hfl
  rename_i hones
  simp only [Bool.and_eq_true] at hones
  unfold newCells at n1
  obtain ⟨m1, m2⟩ := cellsK_good hfl n1
  obtain ⟨m3, m4⟩ := newBlock_good hfl m2
  have hnn : n * size ≤ nn := by
    have := k5 (by intro hnil; rw [hnil] at k3; simp at k3; rcases k3.symm with h0; have : 0 < n * size := Nat.mul_pos (by omega) hz4; omega)
    omega
  have hns : n * size ≤ C.size := Nat.le_trans hnn hn1
  have hold : F2 (VR φ) old (C.toList.take (n * size)) := by
    refine F2.of_get (by simp; omega) fun j v v' e1 e2 => ?_
    have hj : j < n * size := by rw [← k3]; exact (List.getElem?_eq_some_iff.mp e1).1
    have h1 := k6 j v e1
    rw [Nat.zero_add] at h1
    obtain ⟨v2, h2, h3⟩ := hcell j v h1 (by omega)
    rw [List.getElem?_take_of_lt hj] at e2
    rw [Array.getElem?_toList, h2] at e2
    cases e2; exact h3
  have hmid : F2 (VR φ) (old.take (i * size) ++ new ++ old.drop (i * size)) ((C.toList.take (n * size)).take (i * size) ++ new' ++ (C.toList.take (n * size)).drop (i * size)) :=
    ((hold.take _).append n2).append (hold.drop _)
  have h1v := ones_VR n2 hones.2
  have h1c := ones_VR hold hones.1
  have hnl : new'.length = (m + 1) * size := by rw [← n2.length, n3]
  have hmlen : ((C.toList.take (n * size)).take (i * size) ++ new' ++ (C.toList.take (n * size)).drop (i * size)).length = (n + (m + 1)) * size := by
    have hin : i * size ≤ n * size := Nat.mul_le_mul_right _ (by omega)
    rw [Nat.add_mul]
    simp [hnl]
    omega
  obtain ⟨l2, _, v4, v5, _⟩ := firstB_cells hfl hvb k1
  have hvs : vo + (m + 1) * size ≤ VC.size := by
    have hpos : 0 < (m + 1) * size := Nat.mul_pos (by omega) hz4
    have := v5 (by intro hnil; rw [hnil] at v4; simp only [List.length_nil] at v4; omega)
    rw [v4] at this
    exact Nat.le_trans this hv1
  have hf : ∀ w1 : World, w1.heap[plv.B]? = w.heap[plv.B]? → (Builtin.firstCells size (m + 1) (.slice (some ⟨plv.B, vo, none⟩) (m + 1) vc')).run P w1 = .ok new'.toArray w1 := by
    intro w1 hw1
    have h1 := n4 w rfl
    rw [run_first_row hVC hvs] at h1
    have h2 := run_first_row (P := P) (w := w1) (n := m + 1) (c := vc') (by rw [hw1]; exact hVC) hvs
    have h3 := (Result.ok.inj h1).1
    rw [h2, h3]
  refine ⟨hI.enters _ _, Calls.mono (hI.grow pl.B n cap' i plv.B vo (m + 1) vc' C VC ev new' w hBne hlt (by omega) hle hc2 hsm hC hVC hns hf hnl h1v h1c) ?_⟩
  rintro e2 w'' ⟨newCap, rest, d, hdr, j1, j2, rfl, rfl⟩
  have hOR := OR_new (P := P) hmid m1 e' ⟨w.heap.size, newCap * size, size⟩ rest true (fun _ => ⟨by
    rw [List.length_append, hmlen, j2, ← Nat.add_mul]; exact congrArg (fun x => x * size) (Nat.add_sub_cancel' j1), hz2, hz4⟩)
  obtain ⟨q1, q3⟩ := hr.fresh m3 (newCap * size) size hOR trivial
  exact ⟨_, _, _, _, rfl, m4, .sliceOpen (addPl_same _ _ _) j1 (by simp), ⟨q1.obj, q1.dom, q1.keys, q1.nxs, q1.inj, q1.lo⟩, ⟨q3.sub, q3.new, q3.nx, q3.size, q3.frC, q3.frA, q3.tape, q3.os, q3.output, q3.fz, q3.lo, q3.frL, q3.frW, hdr⟩⟩

set_option maxHeartbeats 2000000 in
set_option maxRecDepth 100000 in
theorem insertB_sound (hfl : ¬ good fl) {both : β → β → β} (hboth : ∀ x y, good (both x y) → good x ∧ good y) {f tS e size : Nat} {z : List Value} {inf : TypeInfo} (hI : InsertFn P f tS e size) (hu : P.underlying tS = some (.slice e)) (hz : zOf P e = some (z, size)) (hi : P.info? e = some inf) (hby : inf.bytes ≤ 10000)
    (hr : HR P φ h w) {args args' : List Value} (ha : F2 (VR φ) args args') {κ : Value → Heap → β} (hg : good (insertB fl both e size z args h κ)) : CallTo good P φ h w κ f args'.toArray := by
  obtain ⟨hz1, hz2, hz3, hz4⟩ := zOf_sound hz
  unfold insertB at hg
  split at hg <;> try exact absurd hg hfl
  rename_i base n cap i vb vo m vc
  cases ha with
  | cons hs ha =>
  cases ha with
  | cons hi' ha =>
  cases ha with
  | cons hv ha =>
  cases ha
  cases hi'
  rename_i s' v'
  obtain ⟨base', cap', hs'⟩ : ∃ base' cap', s' = .slice base' n cap' := by cases hs <;> exact ⟨_, _, rfl⟩
  have hle : n ≤ cap' := by subst hs'; cases hs <;> first | assumption | omega
  obtain ⟨plv, vc', hpv, hv'⟩ : ∃ plv vc', φ vb = some plv ∧ v' = .slice (some ⟨plv.B, vo, none⟩) (m + 1) vc' := by
    cases hv with
    | slice hp _ _ => exact ⟨_, _, hp, rfl⟩
    | sliceOpen hp _ _ => exact ⟨_, _, hp, rfl⟩
  split at hg
  · rename_i hin; have hin := beq_t hin
    subst hin
    obtain ⟨φ', v, r, h', w', g1, g2, g3, g4, g5⟩ := appendB_sound (ts := #[tS, tS]) (ty := tS) (xd := .slice e) hfl hboth rfl hu hz hi hby rfl hu hr hg hs hv
    subst hs'; subst hv'
    refine ⟨hI.enters _ _, Calls.mono (hI.atEnd base' i cap' plv.B vo (m + 1) vc' w r w' (by omega) hle g5) ?_⟩
    rintro e' w'' ⟨rfl, rfl⟩
    exact ⟨φ', v, r, h', rfl, g1, g2, g3, g4⟩
  · split at hg
    · subst hs'; subst hv'
      exact insertX_sound hfl hI hz hr hs hpv hv hg
    split at hg <;> try exact absurd hg hfl
    rename_i b hlt hop
    have hlt : i < n := ble_t hlt
    have hop := beq_t hop
    subst hop
    split at hg <;> try exact absurd hg hfl
    rename_i nn cc e' nv cv ev opv hne hb hvb
    have hne := beq_f hne
    split at hg <;> try exact absurd hg hfl
    rename_i hee hsm
    have hee := beq_t hee; subst hee
    have hsm : n + (m + 1) ≤ 1000000 := ble_t hsm
    obtain ⟨pl, hp, hcap, rfl⟩ : ∃ pl, φ b = some pl ∧ cap' * pl.e + 0 = pl.sz ∧ base' = some ⟨pl.B, 0, none⟩ := by
      subst hs'
      cases hs with
      | slice hp hn hc => exact absurd hc (Nat.lt_irrefl _)
      | sliceOpen hp hn hc => exact ⟨_, hp, hc, rfl⟩
    obtain ⟨C, hC, hn1, hn2, hopn, hcell⟩ := hr.rowAt hb hp
    obtain ⟨VC, hVC, hv1, _, _, _⟩ := hr.rowAt hvb hpv
    obtain ⟨o1, o2, o3⟩ := hopn rfl
    have hBne : pl.B ≠ plv.B := fun hB => hne (hr.inj b vb _ _ pl plv hb hvb trivial trivial hp hpv hB).symm
    have hpe : pl.e = size := by rw [hz2] at o2; exact (Option.some.inj o2).symm
    rw [hpe] at hcap
    obtain ⟨old, k1, k3, k5, k6⟩ := firstB_cells hfl hb hg
    obtain ⟨new, new', n1, n2, n3, n4⟩ := firstB_sound hfl hr k1 hv ⟨_, _, _, rfl, Nat.le_refl _⟩
    split at n1 <;> try exact absurd n1 hfl
    rename_i hones
    simp only [Bool.and_eq_true] at hones
    obtain ⟨hlo, n1⟩ := setBlock_good hfl n1
    unfold newCells at n1
    obtain ⟨m1, m2⟩ := cellsK_good hfl n1
    obtain ⟨m3, m4⟩ := newBlock_good hfl m2
    have hcs : cap' * size ≤ C.size := by omega
    have hns : n * size ≤ C.size := Nat.le_trans (Nat.mul_le_mul_right _ hle) hcs
    have hnn : n * size ≤ nn := by
      have := k5 (by intro hnil; rw [hnil] at k3; simp at k3; rcases k3.symm with h0; have : 0 < n * size := Nat.mul_pos (by omega) hz4; omega)
      omega
    have hold : F2 (VR φ) old (C.toList.take (n * size)) := by
      refine F2.of_get (by simp; omega) fun j v v' e1 e2 => ?_
      have hj : j < n * size := by rw [← k3]; exact (List.getElem?_eq_some_iff.mp e1).1
      have h1 := k6 j v e1
      rw [Nat.zero_add] at h1
      obtain ⟨v2, h2, h3⟩ := hcell j v h1 (by omega)
      rw [List.getElem?_take_of_lt hj] at e2
      rw [Array.getElem?_toList, h2] at e2
      cases e2; exact h3
    have hmid : F2 (VR φ) (old.take (i * size) ++ new ++ old.drop (i * size)) ((C.toList.take (n * size)).take (i * size) ++ new' ++ (C.toList.take (n * size)).drop (i * size)) :=
      ((hold.take _).append n2).append (hold.drop _)
    have h1v := ones_VR n2 hones.2
    have h1c := ones_VR hold hones.1
    have hnl : new'.length = (m + 1) * size := by rw [← n2.length, n3]
    have hmlen : ((C.toList.take (n * size)).take (i * size) ++ new' ++ (C.toList.take (n * size)).drop (i * size)).length = (n + (m + 1)) * size := by
      have hin : i * size ≤ n * size := Nat.mul_le_mul_right _ (by omega)
      rw [Nat.add_mul]
      simp [hnl]
      omega
    subst hs'; subst hv'
    obtain ⟨l2, _, v4, v5, _⟩ := firstB_cells hfl hvb k1
    have hvs : vo + (m + 1) * size ≤ VC.size := by
      have hpos : 0 < (m + 1) * size := Nat.mul_pos (by omega) hz4
      have := v5 (by intro hnil; rw [hnil] at v4; simp only [List.length_nil] at v4; omega)
      rw [v4] at this
      exact Nat.le_trans this hv1
    have hf : ∀ w1 : World, w1.heap[plv.B]? = w.heap[plv.B]? → (Builtin.firstCells size (m + 1) (.slice (some ⟨plv.B, vo, none⟩) (m + 1) vc')).run P w1 = .ok new'.toArray w1 := by
      intro w1 hw1
      have h1 := n4 w rfl
      rw [run_first_row hVC hvs] at h1
      have h2 := run_first_row (P := P) (w := w1) (n := m + 1) (c := vc') (by rw [hw1]; exact hVC) hvs
      have h3 := (Result.ok.inj h1).1
      rw [h2, h3]
    by_cases hroom : n + (m + 1) ≤ cap'
    · refine ⟨hI.enters _ _, Calls.mono (hI.shift pl.B n cap' i plv.B vo (m + 1) vc' C VC ev new' w hBne hlt (by omega) hroom hsm hC hVC hcs hf hnl h1v h1c) ?_⟩
      rintro e2 w'' ⟨rfl, d, hdr, rfl⟩
      have hrow := setRow_heap w pl.B C ((((C.toList.take (n * size)).take (i * size) ++ new' ++ (C.toList.take (n * size)).drop (i * size)) ++ C.toList.drop ((n + (m + 1)) * size)).toArray) e' _ hC
      have hOR := OR_new (P := P) hmid m1 e' pl (C.toList.drop ((n + (m + 1)) * size)) true (fun _ => ⟨by
        have : (n + (m + 1)) * size ≤ C.size := Nat.le_trans (Nat.mul_le_mul_right _ hroom) hcs
        rw [List.length_append, hmlen]; simp; omega, o2, o3⟩)
      obtain ⟨q1, q2⟩ := hr.regrow hlo (ob := .cells (old.take (i * size) ++ new ++ old.drop (i * size)).length (lay (old.take (i * size) ++ new ++ old.drop (i * size)) .nil 0) e' true) (w' := { w.setRow pl.B ((((C.toList.take (n * size)).take (i * size) ++ new' ++ (C.toList.take (n * size)).drop (i * size)) ++ C.toList.drop ((n + (m + 1)) * size)).toArray) with drawn := d }) hb hp m3
        (setRow_size _ _ _) (fun k hk => setRow_other _ _ _ _ hk) (by show OR P φ _ pl ((w.setRow pl.B _).heap[pl.B]?); rw [hrow]; exact hOR) (by show OR P φ _ pl ((w.setRow pl.B _).heap[pl.B]?); rw [hrow]; exact ⟨by omega, hn2, o2, o3⟩) rfl rfl rfl trivial hdr
      exact ⟨_, _, _, _, rfl, m4, .sliceOpen (addPl_same _ _ _) hroom (by rw [hpe]; exact hcap), q1, q2⟩
    · refine ⟨hI.enters _ _, Calls.mono (hI.grow pl.B n cap' i plv.B vo (m + 1) vc' C VC ev new' w hBne hlt (by omega) hle (by omega) hsm hC hVC hns hf hnl h1v h1c) ?_⟩
      rintro e2 w'' ⟨newCap, rest, d, hdr, j1, j2, rfl, rfl⟩
      have hdead := hr.turn hlo (w' := w) (o := .dead nn e') hp ⟨_, hb, trivial⟩ rfl (fun _ _ => rfl) (by rw [hC]; exact ⟨by omega, hn2, o2, o3⟩) rfl rfl rfl (.inr id)
      have hOR := OR_new (P := P) hmid m1 e' ⟨w.heap.size, newCap * size, size⟩ rest true (fun _ => ⟨by
        rw [List.length_append, hmlen, j2, ← Nat.add_mul]; exact congrArg (fun x => x * size) (Nat.add_sub_cancel' j1), hz2, hz4⟩)
      obtain ⟨q1, q2⟩ := hdead.1.fresh m3 (newCap * size) size hOR trivial
      have q3 := hdead.2.trans q2
      exact ⟨_, _, _, _, rfl, m4, .sliceOpen (addPl_same _ _ _) j1 (by simp), ⟨q1.obj, q1.dom, q1.keys, q1.nxs, q1.inj, q1.lo⟩, ⟨q3.sub, q3.new, q3.nx, q3.size, q3.frC, q3.frA, q3.tape, q3.os, q3.output, q3.fz, q3.lo, q3.frL, q3.frW, hdr⟩⟩

end Go.Vai

namespace Go.Proofs
open Go.Vai

theorem enters222 (args : Array Value) (w : World) : (callFunc 222 args).run Tryz.prog w = .ok (.enter 222 args) w := by
  have hb : Tryz.f222.body.isNone = false := by kernel_rfl
  have hn : (Tryz.f222.name == "runtime.NumGoroutine") = false := by kernel_rfl
  have hn' : Tryz.f222.name ≠ "runtime.NumGoroutine" := by simpa using hn
  simp [callFunc, Tryz.func222, hn', hb]
  cases h : Tryz.f222.body with
  | none => rw [h] at hb; cases hb
  | some c => simp

theorem insert222 {inf : TypeInfo} {z : Value} (hinf : Tryz.prog.info? 347 = some inf) (hz : inf.zero = some z) (hzc : z.cells.size = 4) (hby : inf.bytes ≤ 10000) (h3 : Tryz.prog.underlying 3 = some (.int .i64)) : InsertFn Tryz.prog 222 138 347 4 where
  enters := enters222
  atEnd := fun base n c VB vo m vc w r w' hm hle hr => f222_atEnd base n c VB vo m vc w r w' hm hle hr
  shift := fun B n c i VB vo m vc C VC e2 new w hne hi hm hroom hsm hC hV hcs hf hnl h1v h1c => f222_shift B n c i VB vo m vc C VC e2 new w hne hi hm hroom hsm hC hV hcs hf hnl h1v h1c
  grow := fun B n c i VB vo m vc C VC e2 new w hne hi hm hnc hroom hsm hC hV hcs hf hnl h1v h1c => f222_grow B n c i VB vo m vc C VC e2 new w hne hi hm hnc hroom hsm hC hV hcs hf hnl h1v h1c hinf hz hzc hby h3
end Go.Proofs
