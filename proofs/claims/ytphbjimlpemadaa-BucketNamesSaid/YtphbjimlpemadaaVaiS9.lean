/-
  PROVED HERE: a part of an interpreter for the model's code, and that it is sound.
  The interpreter is sound, part 9: append; all that writes, together.
-/
import Derived.Test.YtphbjimlpemadaaVaiS8
import Derived.Laws.AppendOwn
set_option linter.unusedVariables false
set_option linter.unusedSimpArgs false
namespace Go.Vai
open Go
variable {β : Type} {fl : β} {good : β → Prop} {P : Program} {φ : Emb} {h : Heap} {w : World} {t : TypeId}

/-- what is appended: how many elements, and the cells -/
inductive Comes (P : Program) (ts : Array TypeId) (e size : Nat) (n : Nat) (new' : List Value) (w : World) : Value → Prop where
  | sl {xt : TypeId} {xd : TypeDesc} {a : Option Addr} {c : Nat} (h1 : ts[1]? = some xt) (h2 : P.underlying xt = some xd) (h3 : isIntD xd = false)
      (h4 : ∀ w1 : World, w1.heap = w.heap → (Builtin.firstCells size n (.slice a n c)).run P w1 = .ok new'.toArray w1) : Comes P ts e size n new' w (.slice a n c)
  | mk {xt : TypeId} {k k' : IntKind} {inf : TypeInfo} {v : Value} (h1 : ts[1]? = some xt) (h2 : P.underlying xt = some (.int k')) (h3 : n ≤ 1000000) (h4 : P.info? e = some inf) (h5 : inf.zero = some v)
      (h6 : inf.bytes ≤ 10000) (h7 : Builtin.zeroCells v.cells n = new'.toArray) (h8 : n * size = 0 → new' = []) : Comes P ts e size n new' w (.int k (n : Int))

theorem HR.ofHeap (hr : HR P φ h w) {w1 : World} (hw : w1.heap = w.heap) : HR P φ h w1 :=
  ⟨fun b o pl h1 h2 => by rw [hw]; exact hr.obj b o pl h1 h2, fun b pl h1 => by rw [hw]; exact hr.dom b pl h1, hr.keys, hr.nxs, hr.inj, hr.lo⟩

theorem comeB_sound (hfl : ¬ good fl) {e size : Nat} {xt : TypeId} {xd : TypeDesc} {inf : TypeInfo} {ts : Array TypeId} {z : List Value} (hz : zOf P e = some (z, size)) (hi : P.info? e = some inf) (hb : inf.bytes ≤ 10000)
    (hxt : ts[1]? = some xt) (hxd : P.underlying xt = some xd) (hr : HR P φ h w) {x x' : Value} {κ : Nat → List Value → β}
    (hg : good (comeB fl (isIntD xd) z h size x κ)) (hx : VR φ x x') :
    ∃ n new new', good (κ n new) ∧ F2 (VR φ) new new' ∧ new.length = n * size ∧ Comes P ts e size n new' w x' := by
  obtain ⟨hz1, hz2, hz3, hz4⟩ := zOf_sound hz
  obtain ⟨v, inf', hi', hzv, hzl, hbs⟩ := info_of_zero hz1
  rw [hi] at hi'; cases hi'
  unfold comeB at hg
  split at hg
  · rename_i k n hm
    split at hg <;> try exact absurd hg hfl
    rename_i hle; have hle := ble_t hle
    cases hx
    have hzz : Builtin.zeroCells v.cells n = (repeatL z n).toArray := by
      unfold Builtin.zeroCells
      rw [zeros_eq v.cells n _ rfl, hzl]
    obtain ⟨k', rfl⟩ : ∃ k', xd = .int k' := by cases xd <;> first | exact ⟨_, rfl⟩ | cases hm
    refine ⟨n, _, _, hg, basicL_VR (repeatL_basic hbs n), by rw [repeatL_length, hz3], .mk hxt hxd hle hi hzv hb hzz ?_⟩
    intro h0
    have hn0 : n = 0 := by rcases Nat.mul_eq_zero.1 h0 with h | h <;> omega
    subst hn0
    rfl
  · rename_i a n c hm
    obtain ⟨l, l', g1, g2, g3, g4⟩ := firstB_sound hfl hr hg hx ⟨_, _, _, rfl, Nat.le_refl _⟩
    obtain ⟨a', c', rfl⟩ : ∃ a' c', x' = .slice a' n c' := by cases hx <;> exact ⟨_, _, rfl⟩
    exact ⟨n, l, l', g1, g2, g3, .sl hxt hxd hm g4⟩
  · exact absurd hg hfl

theorem run_append_at {e size n sLen sCap : Nat} {ty : TypeId} {ts : Array TypeId} {base : Option Addr} {x' : Value} {new' : List Value} (ht : ts[0]? = some t) (hu : P.underlying t = some (.slice e)) (hs : szOf P e = some size)
    (hc : Comes P ts e size n new' w x') (hle : sLen + n ≤ sCap) {w' : World} (hst : ∀ a, base = some a → (storeCells (a.add (sLen * size)) new').run P w = .ok () w') (hno : base = none → w' = w) :
    (Builtin.append_ ts ty #[.slice base sLen sCap, x']).run P w = .ok (.slice base (sLen + n) sCap) w' := by
  cases hc with
  | @sl xt xd a c h1 h2 h3 h4 =>
    have h4 := h4 w rfl
    have key : ∀ d, P.underlying xt = some d → isIntD d = false → (Builtin.append_ ts ty #[.slice base sLen sCap, .slice a n c]).run P w = .ok (.slice base (sLen + n) sCap) w' := by
      intro d hd hdf
      unfold Builtin.append_
      cases d <;> first
        | (cases hdf; done)
        | (simp only [ht, h1, List.getElem?_toArray, List.getElem?_cons_zero, List.getElem?_cons_succ, Sem.run_bind, run_und hu, run_und hd, Result.andThen_ok, run_size hs, Sem.run_pure, Bool.false_eq_true, if_false,
            Builtin.lenOf, hle, Bool.not_false, if_true, h4]
           cases base with
           | none => rw [hno rfl]; simp only [Sem.run_pure]
           | some b => simp only [Sem.run_bind, hst b rfl, Result.andThen_ok, Sem.run_pure])
    exact key xd h2 h3
  | @mk xt k k' inf v h1 h2 h3 h4 h5 h6 h7 h8 =>
    have w1 : IntKind.i64.wrap (n : Int) = n := IntWalk.i64_in _ ⟨by omega, by omega⟩
    have c1 : ¬ ((n : Int) < 0) := by omega
    have c2 : ¬ ((n : Int) * (inf.bytes : Int) > 2 ^ 48) := by
      have : n * inf.bytes ≤ 1000000 * 10000 := Nat.mul_le_mul h3 h6
      have h2 : (n : Int) * (inf.bytes : Int) = ((n * inf.bytes : Nat) : Int) := by simp
      rw [h2]; omega
    have hA : (asInt (.int k (n : Int))).run P w = .ok (n : Int) w := by simp [asInt, asIntOf]
    have hnew : (if n * size = 0 then pure #[] else do pure (Builtin.zeroCells (← zeroValue e).cells n) : Sem (Array Value)).run P w = .ok new'.toArray w := by
      by_cases h0 : n * size = 0
      · simp only [h0, if_true, h8 h0]; rfl
      · simp [h0, run_zero h4 h5, h7]
    simp only [Sem.run_ite, Sem.run_bind, Sem.run_pure] at hnew
    unfold Builtin.append_
    simp only [ht, h1, List.getElem?_toArray, List.getElem?_cons_zero, List.getElem?_cons_succ, Sem.run_bind, run_und hu, run_und h2, Result.andThen_ok, run_size hs, Sem.run_pure, if_true, hA, w1, c1, if_false,
      run_info h4, c2, Int.toNat_natCast, hle, Bool.not_true, Bool.false_eq_true, Sem.run_ite, hnew]
    cases base with
    | none => rw [hno rfl]; simp
    | some b => simp [hst b rfl]

theorem cut_ge {need old : Nat} {e : TypeId} (tp : Nat) : need ≤ (Question.appendCap need old e).cut tp := by simp [Question.cut]

set_option maxHeartbeats 1000000 in
theorem run_append_fresh {e size n sLen sCap : Nat} {ty : TypeId} {ts : Array TypeId} {base : Option Addr} {x' v : Value} {new' old' : List Value} {inf : TypeInfo} (ht : ts[0]? = some t) (hu : P.underlying t = some (.slice e)) (hs : szOf P e = some size)
    (hi : P.info? e = some inf) (hz : inf.zero = some v) (hb : inf.bytes ≤ 10000) (hc : Comes P ts e size n new' w x') (hlt : sCap < sLen + n) (hneed : sLen + n ≤ 1000000000)
    (hold : ∀ w1 : World, w1.heap = w.heap → (Builtin.firstCells size sLen (.slice base sLen sCap)).run P w1 = .ok old'.toArray w1) :
    ∃ newCap rest, sLen + n ≤ newCap ∧ rest.length = (newCap - (sLen + n)) * v.cells.size ∧ (Builtin.append_ ts ty #[.slice base sLen sCap, x']).run P w =
      .ok (.slice (some ⟨w.heap.size, 0, none⟩) (sLen + n) newCap) (w.drew.alloc (.cells (old' ++ new' ++ rest).toArray e (0, 0))) := by
  have hold := hold w.drew rfl
  let newCap := (Question.appendCap (sLen + n) sCap e).cut (w.tape w.drawn (.appendCap (sLen + n) sCap e))
  refine ⟨newCap, (Builtin.zeroCells v.cells (newCap - (sLen + n))).toList, cut_ge _, by simp [size_zeroCells], ?_⟩
  have hn1 : ¬ (sLen + n ≤ sCap) := by omega
  have hn0 : ¬ (((sLen + n : Nat) : Int) > IntKind.i64.max) := by rw [IntKind.max_i64]; omega
  have hn3 : ¬ (Builtin.nextslicecap (sLen + n) sCap * inf.bytes > 2 ^ 48) := by
    have h5 := nextslicecap_le hlt
    have : Builtin.nextslicecap (sLen + n) sCap * inf.bytes ≤ (2 * 1000000000) * 10000 := Nat.mul_le_mul (by omega) hb
    omega
  have harr : ∀ Z : Array Value, old'.toArray ++ new'.toArray ++ Z = (old' ++ new' ++ Z.toList).toArray := fun Z => Array.ext' (by simp)
  have hz1 : ∀ w1 : World, (zeroValue e).run P w1 = .ok v w1 := fun w1 => run_zero hi hz
  have hi1 : ∀ w1 : World, (typeInfo e).run P w1 = .ok inf w1 := fun w1 => run_info hi
  cases hc with
  | @sl xt xd a c h1 h2 h3 h4 =>
    have h4 := h4 w.drew rfl
    have hxf : isIntD xd = false := h3
    have key : ∀ d, P.underlying xt = some d → isIntD d = false → (Builtin.append_ ts ty #[.slice base sLen sCap, .slice a n c]).run P w =
        .ok (.slice (some ⟨w.heap.size, 0, none⟩) (sLen + n) newCap) (w.drew.alloc (.cells (old' ++ new' ++ (Builtin.zeroCells v.cells (newCap - (sLen + n))).toList).toArray e (0, 0))) := by
      intro d hd hdf
      unfold Builtin.append_
      cases d <;> first
        | (cases hdf; done)
        | (simp only [ht, h1, List.getElem?_toArray, List.getElem?_cons_zero, List.getElem?_cons_succ, Sem.run_bind, run_und hu, run_und hd, Result.andThen_ok, run_size hs, Sem.run_pure, Bool.false_eq_true, if_false,
            Builtin.lenOf, hn1, hi1, hn0, false_and, hn3, run_choose, Question.forced, World.drew_eq, run_askRoom, hold, Bool.not_false, if_true, h4, hz1, newRow, run_newObj]
           rw [harr]; rfl)
    exact key xd h2 hxf
  | @mk xt k k' inf' v' h1 h2 h3 h4 h5 h6 h7 h8 =>
    rw [hi] at h4; cases h4
    rw [hz] at h5; cases h5
    have w1 : IntKind.i64.wrap (n : Int) = n := IntWalk.i64_in _ ⟨by omega, by omega⟩
    have c1 : ¬ ((n : Int) < 0) := by omega
    have c2 : ¬ ((n : Int) * (inf.bytes : Int) > 2 ^ 48) := by
      have : n * inf.bytes ≤ 1000000 * 10000 := Nat.mul_le_mul h3 h6
      have h2 : (n : Int) * (inf.bytes : Int) = ((n * inf.bytes : Nat) : Int) := by simp
      rw [h2]; omega
    have hA : (asInt (.int k (n : Int))).run P w = .ok (n : Int) w := by simp [asInt, asIntOf]
    have hnew : (if n * size = 0 then pure #[] else do pure (Builtin.zeroCells (← zeroValue e).cells n) : Sem (Array Value)).run P w.drew = .ok new'.toArray w.drew := by
      by_cases h0 : n * size = 0
      · simp only [h0, if_true, h8 h0]; rfl
      · simp [h0, hz1, h7]
    simp only [Sem.run_ite, Sem.run_bind, Sem.run_pure] at hnew
    simp only [hz1, Result.andThen_ok] at hnew
    unfold Builtin.append_
    simp only [ht, h1, List.getElem?_toArray, List.getElem?_cons_zero, List.getElem?_cons_succ, Sem.run_bind, run_und hu, run_und h2, Result.andThen_ok, run_size hs, Sem.run_pure, if_true, hA, w1, c1, if_false,
      hi1, c2, Int.toNat_natCast, hn1, hn0, false_and, hn3, run_choose, Question.forced, World.drew_eq, run_askRoom, hold, Bool.not_true, Bool.false_eq_true, Sem.run_ite, hnew, hz1, newRow, run_newObj]
    rw [harr]; rfl


theorem OR_open (w : World) {old old' new new' rest : List Value} {e size newCap sLen n : Nat} (hs : szOf P e = some size) (hz : 0 < size) (h1 : F2 (VR φ) old old') (h2 : F2 (VR φ) new new') (l1 : old.length = sLen * size) (l2 : new.length = n * size)
    (hle : sLen + n ≤ newCap) (hr : rest.length = (newCap - (sLen + n)) * size) (hlen : (old ++ new).length ≤ 1000000000000) :
    OR P φ (.cells (old ++ new).length (lay (old ++ new) .nil 0) e true) ⟨w.heap.size, newCap * size, size⟩ (some (.cells (old' ++ new' ++ rest).toArray e (0, 0))) := by
  refine OR_new (h1.append h2) hlen e _ rest true fun _ => ⟨?_, hs, hz⟩
  simp only [List.length_append, hr, ← h1.length, ← h2.length, l1, l2]
  rw [← Nat.add_mul, ← Nat.add_mul]
  congr 1
  omega

theorem firstB_cells (hfl : ¬ good fl) {b o n m c nn e size : Nat} {cc : T Value} {op : Bool} {κ : List Value → β} (hb : h.bl.get b = some (.cells nn cc e op)) (hg : good (firstB fl h size n (.slice (some ⟨b, o, none⟩) m c) κ)) :
    ∃ l, good (κ l) ∧ l.length = n * size ∧ (l ≠ [] → o + l.length ≤ nn) ∧ ∀ j v, l[j]? = some v → cc.get (o + j) = some v := by
  unfold firstB at hg
  split at hg
  · rename_i h0
    have h0 : n * size = 0 := h0
    exact ⟨[], hg, h0.symm, fun hh => absurd rfl hh, fun j v e => by simp at e⟩
  · rename_i k hk
    have hk : n * size = k + 1 := hk
    simp only [hb] at hg
    split at hg <;> try exact absurd hg hfl
    rename_i hle; have hle := ble_t hle
    obtain ⟨l, h1, h2, h3⟩ := loadN_good hfl _ _ _ _ _ hg
    simp only [List.append_nil] at h1
    exact ⟨l, h1, by rw [h2, hk], fun _ => by rw [h2]; exact hle, h3⟩

/-- an open block grown in place: the old name dies, a new one takes its place -/
theorem HR.regrow (hr : HR P φ h w) {b nn e : Nat} (hlo : h.lo ≤ b) {c : T Value} {op : Bool} {pl : Pl} {ob : AObj} {w' : World} (hb : h.bl.get b = some (.cells nn c e op)) (hp : φ b = some pl) (hn : h.nx ≤ 1000000000000)
    (hsz : w'.heap.size = w.heap.size) (hoth : ∀ k, k ≠ pl.B → w'.heap[k]? = w.heap[k]?) (ho : OR P φ ob pl w'.heap[pl.B]?) (hd : OR P φ (.dead nn e) pl w'.heap[pl.B]?)
    (ht : w'.tape = w.tape) (hos : w'.os = w.os) (hout : w'.output = w.output) (hlv : ob.live) :
    HR P (addPl φ h.nx pl) ⟨h.nx + 1, (h.bl.upd b (.dead nn e)).upd h.nx ob, h.lo⟩ w' ∧ Ext φ (addPl φ h.nx pl) h ⟨h.nx + 1, (h.bl.upd b (.dead nn e)).upd h.nx ob, h.lo⟩ w w' := by
  obtain ⟨hr1, hx1⟩ := hr.turn hlo (o := .dead nn e) hp ⟨_, hb, trivial⟩ hsz hoth hd ht hos hout (.inr fun _ => UF_of_OR ho hlv)
  have hnone : φ h.nx = none := by
    cases hq : φ h.nx with
    | none => rfl
    | some pl => have := (hr.dom _ _ hq).1; omega
  have hs : Small h.nx := by unfold Small; omega
  have hbn := (hr.dom b pl hp).1
  have get_ne : ∀ x, x < h.nx → ((h.bl.upd b (.dead nn e)).upd h.nx ob).get x = (h.bl.upd b (.dead nn e)).get x := fun x hx => T.get_upd_ne _ _ hs (by unfold Small; omega) (by omega)
  have hsub := addPl_sub (pl := pl) hnone
  -- nobody else lives there
  have alone : ∀ x o px, (h.bl.upd b (.dead nn e)).get x = some o → o.live → φ x = some px → px.B ≠ pl.B := by
    intro x o px hx hl hpx hB
    have hxn := (hr.dom x px hpx).1
    rw [T.get_upd _ _ (by unfold Small; omega) (by unfold Small; omega)] at hx
    split at hx
    · cases hx; exact hl
    · rename_i hne
      exact hne (hr.inj x b o _ px pl hx hb hl trivial hpx hp hB).symm
  constructor
  · refine ⟨?_, ?_, ?_, ?_, ?_, Nat.le_succ_of_le hr.lo⟩
    · intro x o px hx hpx
      unfold addPl at hpx
      split at hpx
      · rename_i he; subst he; cases hpx
        rw [T.get_upd_same] at hx; cases hx
        exact ho.mono hsub
      · have hxn := (hr.dom x px hpx).1
        exact (hr1.obj x o px ((get_ne x hxn) ▸ hx) hpx).mono hsub
    · intro x px hpx
      unfold addPl at hpx
      split at hpx
      · rename_i he; subst he; cases hpx; exact ⟨Nat.lt_succ_self _, by rw [hsz]; exact (hr.dom b pl hp).2⟩
      · have := hr1.dom x px hpx; exact ⟨Nat.lt_succ_of_lt this.1, this.2⟩
    · intro x o hsx hx
      show x < h.nx + 1
      rw [T.get_upd _ _ hs hsx] at hx
      split at hx
      · omega
      · have := hr1.keys x o hsx hx; exact Nat.lt_succ_of_lt this
    · show h.nx + 1 < 2 ^ 199; omega
    · intro x x' o1 o2 p1 p2 g1 g2 l1 l2 e1 e2 eB
      unfold addPl at e1 e2
      split at e1 <;> split at e2
      · omega
      · rename_i q1 q2; cases e1
        have hxn := (hr.dom x' p2 e2).1
        exact absurd eB.symm (alone x' o2 p2 ((get_ne x' hxn) ▸ g2) l2 e2)
      · rename_i q1 q2; cases e2
        have hxn := (hr.dom x p1 e1).1
        exact absurd eB (alone x o1 p1 ((get_ne x hxn) ▸ g1) l1 e1)
      · have n1 := (hr.dom x p1 e1).1
        have n2 := (hr.dom x' p2 e2).1
        exact hr1.inj x x' o1 o2 p1 p2 ((get_ne x n1) ▸ g1) ((get_ne x' n2) ▸ g2) l1 l2 e1 e2 eB
  · refine ⟨hsub, ?_, Nat.le_succ _, hx1.size, hx1.frC, ?_, ht, hos, hout, hx1.fz, rfl, fun x hx => (get_ne x (Nat.lt_of_lt_of_le hx hr.lo)).trans (hx1.frL x hx)⟩
    · intro x px e0 e1
      unfold addPl at e1
      split at e1
      · rename_i he; subst he; cases e1; exact ⟨Nat.le_refl _, .inr ⟨b, pl, hp, rfl⟩⟩
      · rw [e0] at e1; cases e1
    · intro x hx hpx
      show ((h.bl.upd b (.dead nn e)).upd h.nx ob).get x = _
      rw [get_ne x hx]
      exact hx1.frA x hx hpx

theorem ones_VR {l l' : List Value} (g : F2 (VR φ) l l') (h : l.all oneC = true) : ∀ v' ∈ l', v'.oneCell' = true := by
  induction g with
  | nil => intro v' hv'; cases hv'
  | cons hv _ ih =>
    simp only [List.all_cons, Bool.and_eq_true] at h
    intro v' hv'
    simp only [List.mem_cons] at hv'
    rcases hv' with rfl | hv'
    · exact oneC_VR h.1 hv
    · exact ih h.2 v' hv'

set_option maxHeartbeats 2000000 in
theorem appendB_sound (hfl : ¬ good fl) {e size : Nat} {ty xt : TypeId} {xd : TypeDesc} {inf : TypeInfo} {ts : Array TypeId} {z : List Value} (ht : ts[0]? = some t) (hu : P.underlying t = some (.slice e))
    (hz : zOf P e = some (z, size)) (hi : P.info? e = some inf) (hby : inf.bytes ≤ 10000) (hxt : ts[1]? = some xt) (hxd : P.underlying xt = some xd) (hr : HR P φ h w) {s s' x x' : Value} {κ : Value → Heap → β}
    (hg : good (appendB fl e size z (isIntD xd) s x h κ)) (hsv : VR φ s s') (hx : VR φ x x') :
    ∃ φ' v v' h' w', good (κ v h') ∧ VR φ' v v' ∧ HR P φ' h' w' ∧ Ext φ φ' h h' w w' ∧ (Builtin.append_ ts ty #[s', x']).run P w = .ok v' w' := by
  obtain ⟨hz1, hz2, hz3, hz4⟩ := zOf_sound hz
  obtain ⟨v, inf', hi', hzv, hzl, hbs⟩ := info_of_zero hz1
  rw [hi] at hi'; cases hi'
  have hvs : v.cells.size = size := by rw [← hz3, hzl]; simp
  unfold appendB at hg
  split at hg <;> try exact absurd hg hfl
  rename_i base sLen sCap
  obtain ⟨n, new, new', g1, g2, g3, g4⟩ := comeB_sound hfl hz hi hby hxt hxd hr hg hx
  have hnlen := g2.length
  obtain ⟨base', sCap', hs'⟩ : ∃ base' sCap', s' = .slice base' sLen sCap' := by cases hsv <;> exact ⟨_, _, rfl⟩
  have hle' : sLen ≤ sCap' := by subst hs'; cases hsv <;> first | assumption | omega
  -- a fresh block
  have fresh : ∀ {h1 : Heap} {w1 : World} {old old' : List Value} {κ1 : Value → Heap → β}, HR P φ h1 w.drew → Ext φ φ h h1 w w.drew → sLen + n ≤ 1000000000 → sCap' < sLen + n →
      F2 (VR φ) old old' → old.length = sLen * size → (∀ w1 : World, w1.heap = w.heap → (Builtin.firstCells size sLen s').run P w1 = .ok old'.toArray w1) →
      good (newCells fl (old ++ new) e true h1 fun b h => κ (.slice (some ⟨b, 0, none⟩) (sLen + n) openCap) h) →
      ∃ φ' v v' h' w', good (κ v h') ∧ VR φ' v v' ∧ HR P φ' h' w' ∧ Ext φ φ' h h' w w' ∧ (Builtin.append_ ts ty #[s', x']).run P w = .ok v' w' := by
    intro h1 w1 old old' κ1 hr1 hx1 hneed hlt ho1 ho2 ho3 hgood
    unfold newCells at hgood
    obtain ⟨k1, k2⟩ := cellsK_good hfl hgood
    obtain ⟨k3, k4⟩ := newBlock_good hfl k2
    rw [hs'] at ho3
    obtain ⟨newCap, rest, j1, j2, j3⟩ := run_append_fresh (ty := ty) ht hu hz2 hi hzv hby g4 hlt hneed ho3
    rw [hvs] at j2
    have hOR := OR_open (P := P) (φ := φ) w.drew (newCap := newCap) hz2 hz4 ho1 g2 ho2 g3 j1 j2 k1
    obtain ⟨m1, m2⟩ := hr1.fresh k3 (newCap * size) size hOR trivial
    refine ⟨_, _, _, _, _, k4, .sliceOpen (addPl_same _ _ _) j1 (by simp), m1, hx1.trans m2, by rw [hs']; exact j3⟩
  split at g1
  · -- nothing comes
    refine ⟨φ, _, s', h, w, g1, hsv, hr, Ext.refl _ _ _, ?_⟩
    have hn0 : new = [] := List.eq_nil_of_length_eq_zero (by rw [g3]; omega)
    subst hn0
    cases g2
    rw [hs']
    exact run_append_at ht hu hz2 g4 (by omega) (w' := w) (fun a _ => by simp [storeCells]) (fun _ => rfl)
  · rename_i n
    rw [fnK_eq] at g1
    split at g1 <;> try exact absurd g1 hfl
    rename_i hneed; have hneed := ble_t hneed
    have hneed : sLen + (n + 1) ≤ 1000000000 := hneed
    split at g1
    · -- the nil slice
      split at g1 <;> try exact absurd g1 hfl
      rename_i hc0 hl0
      have hc0 := beq_t hc0; have hl0 := beq_t hl0
      subst hc0; subst hl0
      cases hsv with
      | sliceNil _ =>
        cases hs'
        refine fresh (w1 := w) (κ1 := κ) (old := []) (old' := []) hr.drew (Ext.refl _ _ _).drew hneed (by omega) .nil (by simp) (fun w1 _ => by simp [Builtin.firstCells]) (by simpa using g1)
    · rename_i b o
      split at g1 <;> try exact absurd g1 hfl
      rename_i hany; have hany := beq_f hany
      split at g1
      · -- open
        rename_i hop; have hop := beq_t hop; subst hop
        obtain ⟨pl, hp, hcap, rfl⟩ : ∃ pl, φ b = some pl ∧ sCap' * pl.e + o = pl.sz ∧ base' = some ⟨pl.B, o, none⟩ := by
          subst hs'
          cases hsv with
          | slice hp hn hc => exact absurd hc (Nat.lt_irrefl _)
          | sliceOpen hp hn hc => exact ⟨_, hp, hc, rfl⟩
        split at g1 <;> try exact absurd g1 hfl
        rename_i nn cc e' hb
        obtain ⟨C, hC, hn1, hn2, hopn, hcell⟩ := hr.rowAt hb hp
        obtain ⟨o1, o2, o3⟩ := hopn rfl
        split at g1 <;> try exact absurd g1 hfl
        · -- in place
          rename_i hee hfit
          have hee := beq_t hee; subst hee
          have hfit : o + (sLen + (n + 1)) * size ≤ nn := ble_t hfit
          have hpe : pl.e = size := by rw [hz2] at o2; exact (Option.some.inj o2).symm
          have hroom : sLen + (n + 1) ≤ sCap' := by
            rw [hpe] at hcap
            have h1 : (sLen + (n + 1)) * size ≤ sCap' * size := by omega
            exact Nat.le_of_mul_le_mul_right h1 hz4
          obtain ⟨k1, k2, k3⟩ := storeN_good hfl _ _ _ _ _ g1
          obtain ⟨hlo, k3⟩ := setBlock_good hfl k3
          obtain ⟨w', j1, j2, j3⟩ := hr.storeAt hlo hb hp g2 k1 k2
          refine ⟨φ, _, .slice (some ⟨pl.B, o, none⟩) (sLen + (n + 1)) sCap', _, w', k3, .sliceOpen hp hroom hcap, j2, j3, ?_⟩
          rw [hs']
          exact run_append_at ht hu hz2 g4 hroom (fun a ha => by cases ha; rw [addr_add]; exact j1) (fun hh => by cases hh)
        · -- past what is known: in place, or a new block
          rename_i hee hfit
          have hee := beq_t hee; subst hee
          have hfit := ble_f hfit
          split at g1 <;> try exact absurd g1 hfl
          rename_i ho0
          simp only [Bool.and_eq_true] at ho0
          obtain ⟨ho0, hones⟩ := ho0
          have ho0 := beq_t ho0; subst ho0
          have hpe : pl.e = size := by rw [hz2] at o2; exact (Option.some.inj o2).symm
          have hdead := fun hlo : h.lo ≤ b => hr.turn hlo (w' := w) (o := .dead nn e) hp ⟨_, hb, trivial⟩ rfl (fun _ _ => rfl) (by rw [hC]; exact ⟨by omega, hn2, o2, o3⟩) rfl rfl rfl (.inr id)
          by_cases hroom : sLen + (n + 1) ≤ sCap'
          · obtain ⟨old, k1, k3, k5, k6⟩ := firstB_cells hfl hb g1
            obtain ⟨hlo, k1⟩ := setBlock_good hfl k1
            unfold newCells at k1
            obtain ⟨m1, m2⟩ := cellsK_good hfl k1
            obtain ⟨m3, m4⟩ := newBlock_good hfl m2
            have hone : ∀ v' ∈ new', v'.oneCell' = true := ones_VR g2 hones
            have hfits : sLen * size + new'.length ≤ C.size := by
              rw [o1, ← hcap, hpe, ← hnlen, g3, ← Nat.add_mul]
              exact Nat.le_trans (Nat.mul_le_mul_right _ hroom) (Nat.le_add_right _ _)
            have hrun := run_storeCells_at P pl.B (sLen * size) e new' 0 C w hC (by simpa using hfits) hone
            simp only [Nat.add_zero] at hrun
            have hrow := setRow_heap w pl.B C (C.toList.take (sLen * size) ++ new' ++ C.toList.drop (sLen * size + new'.length)).toArray e _ hC
            have hOR : OR P φ (.cells (old ++ new).length (lay (old ++ new) .nil 0) e true) pl (some (.cells (C.toList.take (sLen * size) ++ new' ++ C.toList.drop (sLen * size + new'.length)).toArray e (0, 0))) := by
              refine ⟨rfl, rfl, ?_, by omega, fun _ => ⟨?_, o2, o3⟩, ?_⟩
              · simp only [List.length_append, k3, List.size_toArray, List.length_take, List.length_drop, Array.length_toList, ← hnlen]
                omega
              · simp only [List.length_append, List.size_toArray, List.length_take, List.length_drop, Array.length_toList]
                omega
              · intro i v hget hi
                have hi2 : i < sLen * size + new.length := by simpa [List.length_append, k3] using hi
                rw [get_lay _ .nil 0 (by omega) i (by unfold Small; omega), if_pos (by omega)] at hget
                simp only [Nat.sub_zero] at hget
                simp only [List.getElem?_toArray, List.append_assoc]
                rcases Nat.lt_or_ge i (sLen * size) with hlt | hge
                · rw [List.getElem?_append_left (by omega)] at hget
                  have hgc := k6 i v hget
                  rw [Nat.zero_add] at hgc
                  obtain ⟨v', e1, e2⟩ := hcell i v hgc (by have := k5 (by intro hnil; rw [hnil] at k3; simp at k3; omega); omega)
                  refine ⟨v', ?_, e2⟩
                  rw [List.getElem?_append_left (by simp; omega), List.getElem?_take_of_lt hlt]
                  simpa using e1
                · rw [List.getElem?_append_right (by omega), k3] at hget
                  obtain ⟨v', e1, e2⟩ := g2.get _ v hget
                  refine ⟨v', ?_, e2⟩
                  have htl : (C.toList.take (sLen * size)).length = sLen * size := by
                    rw [List.length_take, Array.length_toList]; exact Nat.min_eq_left (by omega)
                  have hin : i - sLen * size < new'.length := by rw [← hnlen]; omega
                  rw [List.getElem?_append_right (by rw [htl]; exact hge), htl, List.getElem?_append_left hin]
                  exact e1
            obtain ⟨q1, q2⟩ := hr.regrow hlo (ob := .cells (old ++ new).length (lay (old ++ new) .nil 0) e true) (w' := w.setRow pl.B (C.toList.take (sLen * size) ++ new' ++ C.toList.drop (sLen * size + new'.length)).toArray) hb hp m3
              (setRow_size _ _ _) (fun k hk => setRow_other _ _ _ _ hk) (by rw [hrow]; exact hOR) (by rw [hrow]; exact ⟨by omega, hn2, o2, o3⟩) rfl rfl rfl (by trivial)
            refine ⟨_, _, .slice (some ⟨pl.B, 0, none⟩) (sLen + (n + 1)) sCap', _, _, m4, .sliceOpen (addPl_same _ _ _) hroom hcap, q1, q2, ?_⟩
            rw [hs']
            exact run_append_at ht hu hz2 g4 hroom (fun a ha => by cases ha; rw [addr_add, Nat.zero_add]; exact hrun) (fun hh => by cases hh)
          · obtain ⟨old, old', k1, k2, k3, k4⟩ := firstB_sound hfl hr g1 hsv ⟨_, _, _, rfl, Nat.le_refl _⟩
            obtain ⟨hlo, k1⟩ := setBlock_good hfl k1
            exact fresh (w1 := w) (κ1 := κ) (hdead hlo).1.drew (hdead hlo).2.drew hneed (by omega) k2 k3 k4 k1
      · -- exact
        rename_i hop; have hop := beq_f hop
        obtain ⟨pl, hp, rfl, rfl, hcl0⟩ : ∃ pl, φ b = some pl ∧ sCap' = sCap ∧ base' = some ⟨pl.B, o, none⟩ ∧ sCap < openCap := by
          subst hs'
          cases hsv with
          | slice hp hn hc => exact ⟨_, hp, rfl, rfl, hc⟩
          | sliceOpen hp hn hc => exact absurd rfl hop
          | sliceAny a a' c => exact absurd rfl hany
        split at g1 <;> try exact absurd g1 hfl
        · rename_i nn cc e' op hle hb
          have hroom : sLen + (n + 1) ≤ sCap' := ble_t hle
          obtain ⟨k1, k2, k3⟩ := storeN_good hfl _ _ _ _ _ g1
          obtain ⟨hlo, k3⟩ := setBlock_good hfl k3
          obtain ⟨w', j1, j2, j3⟩ := hr.storeAt hlo hb hp g2 k1 k2
          have hcl : sCap' < openCap := hcl0
          refine ⟨φ, _, .slice (some ⟨pl.B, o, none⟩) (sLen + (n + 1)) sCap', _, w', k3, .slice hp hroom hcl, j2, j3, ?_⟩
          rw [hs']
          exact run_append_at ht hu hz2 g4 hroom (fun a ha => by cases ha; rw [addr_add]; exact j1) (fun hh => by cases hh)
        · rename_i hle
          have hlt := ble_f hle
          split at g1 <;> try exact absurd g1 hfl
          obtain ⟨old, old', k1, k2, k3, k4⟩ := firstB_sound hfl hr g1 hsv ⟨_, _, _, rfl, Nat.le_refl _⟩
          exact fresh (w1 := w) (κ1 := κ) hr.drew (Ext.refl _ _ _).drew hneed hlt k2 k3 k4 k1
    · exact absurd g1 hfl

end Go.Vai
