/-
  PROVED HERE: a part of an interpreter for the model's code, and that it is sound.
  The interpreter is sound, part 8: iterators, delete, clear, copy, append.
-/
import Derived.Test.YtphbjimlpemadaaVaiS7
set_option linter.unusedVariables false
set_option linter.unusedSimpArgs false
namespace Go.Vai
open Go
variable {β : Type} {fl : β} {good : β → Prop} {P : Program} {φ : Emb} {h : Heap} {w : World} {t : TypeId}

theorem deleteB_sound (hfl : ¬ good fl) {kt et ty : TypeId} {ts : Array TypeId} (ht : ts[0]? = some t) (hu : P.underlying t = some (.map kt et)) (hr : HR P φ h w) {m m' k k' : Value} {κ : Value → Heap → β}
    (hg : good (deleteB fl P kt m k h κ)) (hm : VR φ m m') (hk : VR φ k k') :
    ∃ h' w', good (κ (.tuple #[]) h') ∧ HR P φ h' w' ∧ Ext φ φ h h' w w' ∧ (Builtin.delete_ ts ty #[m', k']).run P w = .ok (.tuple #[]) w' := by
  unfold deleteB at hg
  split at hg <;> try exact absurd hg hfl
  rename_i hko
  have hsc := keyOk_scal hko
  have hkk := scal_eq hsc hk
  subst hkk
  have hck : ∀ em, (Instr.checkKey em 10000 kt k').run P w = .ok () w := fun em => checkKey_sound 20 10000 (by omega) kt k' em hko
  obtain ⟨u, hku⟩ := keyOk_und hko
  cases hm <;> try exact absurd hg hfl
  · exact ⟨h, w, hg, hr, Ext.refl _ _ _, by simp [Builtin.delete_, ht, run_und hu, hck]⟩
  · rename_i r pl hp
    simp only at hg
    split at hg <;> try exact absurd hg hfl
    rename_i es clock hb
    obtain ⟨es', hO, h2⟩ := hr.mapAt hb hp
    split at hg
    · rename_i i e hf
      rw [delAt_eq] at hg
      obtain ⟨hlo, hg⟩ := setBlock_good hfl hg
      obtain ⟨r', g3, g4⟩ := findAsking_sound hr hk es es'.toList 0 _ h2 hf
      cases r' with
      | none => exact g4.elim
      | some p =>
        obtain ⟨i', v'⟩ := p
        obtain ⟨rfl, _, g6, _, _⟩ := g4
        have hnew : F2 (ER φ) (es.eraseIdx i') (es'.eraseIdxIfInBounds i').toList := by
          have : (es'.eraseIdxIfInBounds i').toList = es'.toList.eraseIdx i' := by
            unfold Array.eraseIdxIfInBounds
            split
            · simp
            · rename_i hn; rw [List.eraseIdx_of_length_le (by simpa using hn)]
          rw [this]
          exact h2.eraseIdx i'
        obtain ⟨w', k1, k2, k3⟩ := hr.mapSet hlo (clock' := clock) hb hp hnew
        exact ⟨_, w', hg, k2, k3, by simp [Builtin.delete_, ht, run_und hu, run_getMap hO, hck, findKey_run hku g3, k1]⟩
    · rename_i hf
      obtain ⟨r', g3, g4⟩ := findAsking_sound hr hk es es'.toList 0 _ h2 hf
      cases r' with
      | some p => exact g4.elim
      | none =>
        have hself : (setObj pl.B (.map es' clock)).run P w = .ok () w := by
          have hlt : pl.B < w.heap.size := (hr.dom r pl hp).2
          simp [setObj, Sem.run, hO]
          have : w.heap.setIfInBounds pl.B (.map es' clock) = w.heap := by
            apply Array.ext_getElem?
            intro i
            by_cases hi : i = pl.B
            · subst hi; rw [Array.getElem?_setIfInBounds_self_of_lt hlt, hO]
            · rw [Array.getElem?_setIfInBounds_ne (Ne.symm hi)]
          rw [this]
        exact ⟨h, w, hg, hr, Ext.refl _ _ _, by simp [Builtin.delete_, ht, run_und hu, run_getMap hO, hck, findKey_run hku g3, hself]⟩
    · exact absurd hg hfl

/-- an iterator over a map -/
theorem HR.iterAt (hr : HR P φ h w) {b since stepped : Nat} {m : Option Nat} {seen : List Nat} {pl : Pl} (hb : h.bl.get b = some (.miter m since seen stepped)) (hp : φ b = some pl) :
    ∃ m' seen', w.heap[pl.B]? = some (.mapIter m' since seen' stepped) ∧ seen'.toList = seen.reverse ∧ ((m = none ∧ m' = none) ∨ ∃ b pl', m = some b ∧ φ b = some pl' ∧ m' = some pl'.B) := by
  have := hr.obj b _ pl hb hp
  cases hO : w.heap[pl.B]? with
  | none => rw [hO] at this; exact this.elim
  | some O =>
    rw [hO] at this
    cases O <;> simp only [OR] at this <;> try exact this.elim
    obtain ⟨rfl, rfl, h3, h4⟩ := this
    exact ⟨_, _, rfl, h3, h4⟩

theorem rangeB_sound (hfl : ¬ good fl) {kt et : TypeId} (hu : P.underlying t = some (.map kt et)) (hr : HR P φ h w) {x x' : Value} {κ : Value → Heap → β} (hg : good (rangeB fl x h κ)) (hx : VR φ x x') :
    ∃ φ' v v' h' w', good (κ v h') ∧ VR φ' v v' ∧ HR P φ' h' w' ∧ Ext φ φ' h h' w w' ∧ (Instr.range t x').run P w = .ok v' w' := by
  unfold rangeB at hg
  split at hg <;> try exact absurd hg hfl
  · cases hx
    obtain ⟨hn, g1⟩ := newBlock_good hfl hg
    obtain ⟨k1, k2⟩ := hr.fresh (o := .miter none 0 [] 0) (O := .mapIter none 0 #[] 0) hn 0 0 ⟨rfl, rfl, rfl, .inl ⟨rfl, rfl⟩⟩ trivial
    exact ⟨_, _, .pointer (some ⟨w.heap.size, 0, none⟩), _, _, g1, .ptr (addPl_same _ _ _), k1, k2, by simp [Instr.range, run_und hu]⟩
  · split at hg <;> try exact absurd hg hfl
    rename_i r _ es clock hb
    cases hx with
    | map hp =>
      rename_i pl
      obtain ⟨es', hO, h2⟩ := hr.mapAt hb hp
      obtain ⟨hn, g1⟩ := newBlock_good hfl hg
      obtain ⟨k1, k2⟩ := hr.fresh (o := .miter (some r) clock [] clock) (O := .mapIter (some pl.B) clock #[] clock) hn 0 0 ⟨rfl, rfl, rfl, .inr ⟨r, pl, rfl, hp, rfl⟩⟩ trivial
      exact ⟨_, _, .pointer (some ⟨w.heap.size, 0, none⟩), _, _, g1, .ptr (addPl_same _ _ _), k1, k2, by simp [Instr.range, run_und hu, run_getMap hO]⟩

theorem run_getIter {B : Nat} {m : Option Nat} {since stepped : Nat} {seen : Array Nat} (hO : w.heap[B]? = some (.mapIter m since seen stepped)) : (getObj B).run P w = .ok (.mapIter m since seen stepped) w := by
  simp [getObj, Sem.run, hO]

theorem F2.filter {α γ : Type} {R : α → γ → Prop} {f : α → Bool} {g : γ → Bool} {l : List α} {m : List γ} (hl : F2 R l m) (hfg : ∀ a b, R a b → f a = g b) : F2 R (l.filter f) (m.filter g) := by
  induction hl with
  | nil => exact .nil
  | @cons a b l m hr _ ih =>
    simp only [List.filter_cons, hfg a b hr]
    split
    · exact .cons hr ih
    · exact ih
theorem F2.allEq {α γ : Type} {R : α → γ → Prop} {f : α → Bool} {g : γ → Bool} {l : List α} {m : List γ} (hl : F2 R l m) (hfg : ∀ a b, R a b → f a = g b) : l.all f = m.all g := by
  induction hl with
  | nil => rfl
  | cons hr _ ih => simp [hfg _ _ hr, ih]

theorem beqNat (a b : Nat) : Nat.beq a b = (a == b) := by rw [Bool.eq_iff_iff]; simp
theorem bleNat (a b : Nat) : Nat.ble a b = decide (a ≤ b) := by rw [Bool.eq_iff_iff]; simp [Nat.ble_eq]

/-- one of those that are left comes -/
theorem anyNext_good (hfl : ¬ good fl) {both : β → β → β} (hboth : ∀ x y, good (both x y) → good x ∧ good y) {b m since clock : Nat} {seen : List Nat} {κ : Value → Heap → β} : ∀ (es : List MapEntry) (e : MapEntry),
    good (anyNext fl both b m since seen clock h κ e es) → ∀ (i : Nat) (x : MapEntry), (e :: es)[i]? = some x → x.born < since ∧ h.lo ≤ b ∧ good (κ (.tuple #[.bool true, x.key, x.val]) ⟨h.nx, h.bl.upd b (.miter (some m) since (x.born :: seen) clock), h.lo⟩) := by
  intro es
  induction es with
  | nil =>
    intro e hg i x hx
    unfold anyNext at hg
    split at hg <;> try exact absurd hg hfl
    rename_i hle
    obtain ⟨hlo, hg⟩ := setBlock_good hfl hg
    cases i with
    | zero => simp at hx; subst hx; exact ⟨ble_t hle, hlo, hg⟩
    | succ i => simp at hx
  | cons e' es ih =>
    intro e hg i x hx
    unfold anyNext at hg
    split at hg <;> try exact absurd hg hfl
    rename_i hle
    obtain ⟨g1, g2⟩ := hboth _ _ hg
    obtain ⟨hlo, g1⟩ := setBlock_good hfl g1
    cases i with
    | zero => simp at hx; subst hx; exact ⟨ble_t hle, hlo, g1⟩
    | succ i => exact ih e' g2 i x (by simpa using hx)

theorem HR.drew (hr : HR P φ h w) : HR P φ h w.drew := ⟨hr.obj, hr.dom, hr.keys, hr.nxs, hr.inj, hr.lo⟩
theorem Ext.drew {φ' : Emb} {h' : Heap} {w' : World} (hx : Ext φ φ' h h' w w') : Ext φ φ' h h' w w'.drew := ⟨hx.sub, hx.new, hx.nx, hx.size, hx.frC, hx.frA, hx.tape, hx.os, hx.output, hx.fz, hx.lo, hx.frL⟩
theorem Ext.ofDrew {φ' : Emb} {h' : Heap} {w' : World} (hx : Ext φ φ' h h' w.drew w') : Ext φ φ' h h' w w' := ⟨hx.sub, hx.new, hx.nx, hx.size, hx.frC, hx.frA, hx.tape, hx.os, hx.output, hx.fz, hx.lo, hx.frL⟩

/-- a choice among n: a number below n, in the world, or one that has drawn -/
theorem run_choose_next (n : Nat) (hn : 0 < n) (w : World) : ∃ k w', k < n ∧ (w' = w ∨ w' = w.drew) ∧ (choose (.mapNext n)).run P w = .ok k w' := by
  by_cases h1 : n ≤ 1
  · refine ⟨0, w, hn, .inl rfl, ?_⟩
    simp [Question.forced, h1]
  · refine ⟨(Question.mapNext n).cut (w.tape w.drawn (.mapNext n)), w.drew, Nat.mod_lt _ hn, .inr rfl, ?_⟩
    simp [choose, Sem.run, Question.forced, h1]

theorem nextB_sound (hfl : ¬ good fl) {both : β → β → β} (hboth : ∀ x y, good (both x y) → good x ∧ good y) {ty : TypeId} (hr : HR P φ h w) {x x' : Value} {κ : Value → Heap → β} (hg : good (nextB fl both x h κ)) (hx : VR φ x x') :
    ∃ v v' h' w', good (κ v h') ∧ VR φ v v' ∧ HR P φ h' w' ∧ Ext φ φ h h' w w' ∧ (Instr.next x' false ty).run P w = .ok v' w' := by
  unfold nextB at hg
  split at hg <;> try exact absurd hg hfl
  cases hx with
  | ptr hp =>
    rename_i b pl
    split at hg <;> try exact absurd hg hfl
    · rename_i since seen stepped hb
      obtain ⟨m', seen', hO, _, h4⟩ := hr.iterAt hb hp
      rcases h4 with ⟨_, rfl⟩ | ⟨b1, pl', h5, _⟩
      · exact ⟨_, .tuple #[.bool false], h, w, hg, VR.tuple' (.cons (.bool false) .nil), hr, Ext.refl _ _ _, by simp [Instr.next, run_getIter hO]⟩
      · cases h5
    · rename_i m since seen last hb
      obtain ⟨m', seen', hO, hseen, h4⟩ := hr.iterAt hb hp
      rcases h4 with ⟨h5, _⟩ | ⟨b1, pl', h5, hp', rfl⟩
      · cases h5
      · cases h5
        split at hg <;> try exact absurd hg hfl
        rename_i es clock hm
        obtain ⟨es', hO', h2⟩ := hr.mapAt hm hp'
        split at hg <;> try exact absurd hg hfl
        rename_i hstr
        have hcont : ∀ e e' : MapEntry, ER φ e e' → (!seen.any (Nat.beq e.born)) = (!seen'.contains e'.born) := by
          intro e e' he
          rw [he.born]
          congr 1
          rw [← Array.contains_toList, hseen, Bool.eq_iff_iff]
          simp
        have hleft : F2 (ER φ) (es.filter fun e => !seen.any (Nat.beq e.born)) (es'.filter fun e => !seen'.contains e.born).toList := by
          rw [Array.toList_filter]
          exact h2.filter hcont
        have hemp : seen'.isEmpty = seen.isEmpty := by
          have : seen'.toList.isEmpty = seen.isEmpty := by rw [hseen]; simp
          rw [← this]; simp
        have hese : es'.isEmpty = es.isEmpty := by
          have : es'.toList.isEmpty = es.isEmpty := by generalize es'.toList = L at h2; cases h2 <;> rfl
          rw [← this]; simp
        have hall : es'.all (fun e => decide (e.born ≥ last)) = es.all (fun e => Nat.ble last e.born) := by
          rw [← Array.all_toList]
          exact (h2.allEq fun a b hab => by rw [hab.born, bleNat]).symm
        have hstr' : (!seen'.isEmpty && !es'.isEmpty && es'.all (fun e => decide (e.born ≥ last))) = false := by
          rw [hemp, hese, hall]; exact hstr
        split at hg
        · -- nothing left
          rename_i hnil
          rw [hnil] at hleft
          have hl0 : es'.filter (fun e => !seen'.contains e.born) = #[] := by
            generalize (es'.filter fun e => !seen'.contains e.born) = L at hleft
            obtain ⟨L⟩ := L
            cases hleft
            rfl
          refine ⟨_, .tuple #[.bool false], h, w, hg, VR.tuple' (.cons (.bool false) .nil), hr, Ext.refl _ _ _, ?_⟩
          simp only [Instr.next, Sem.run_bind, run_getIter hO, run_getMap hO', Result.andThen_ok, hstr', hl0]
          simp [Question.forced]
        · rename_i e0 es0 hcons
          have hpick := anyNext_good hfl hboth es0 e0 hg
          rw [hcons] at hleft
          have hBlt : pl.B < w.heap.size := (hr.dom b pl hp).2
          generalize hL : (es'.filter fun e => !seen'.contains e.born) = L at hleft
          have hlen := hleft.length
          have hlenL : L.size = es0.length + 1 := by simpa using hlen.symm
          have hborn : ∀ e' ∈ L.toList, e'.born < since := by
            intro e' he'
            obtain ⟨i, hi⟩ := List.getElem?_of_mem he'
            have hi' : i < L.toList.length := (List.getElem?_eq_some_iff.1 hi).1
            obtain ⟨x, hx⟩ : ∃ x, (e0 :: es0)[i]? = some x := ⟨(e0 :: es0)[i]'(by omega), List.getElem?_eq_getElem (by omega)⟩
            obtain ⟨e2, h3, h4⟩ := hleft.get i x hx
            rw [hi] at h3; cases h3
            rw [h4.born]
            exact (hpick i x hx).1
          have f1 : (L.filter fun e => decide (e.born < since)) = L := by
            apply Array.ext'
            rw [Array.toList_filter, List.filter_eq_self]
            intro e he; simpa using hborn e he
          have f2 : (L.filter fun e => decide (e.born ≥ since)) = #[] := by
            apply Array.ext'
            rw [Array.toList_filter, List.filter_eq_nil_iff]
            intro e he; have := hborn e he; simp; omega
          have hne : L.isEmpty = false := by
            rw [Array.isEmpty_eq_false_iff]
            intro h0; rw [h0] at hlenL; simp at hlenL
          obtain ⟨k, w1, hk, hw1, hch⟩ := run_choose_next (P := P) (es0.length + 1) (by omega) w
          obtain ⟨x, hx⟩ : ∃ x, (e0 :: es0)[k]? = some x := ⟨(e0 :: es0)[k]'(by simpa using hk), List.getElem?_eq_getElem (by simpa using hk)⟩
          obtain ⟨e', he1, he'⟩ := hleft.get k x hx
          rw [Array.getElem?_toList] at he1
          obtain ⟨hxb, hlo, hgood⟩ := hpick k x hx
          have hr1 : HR P φ h w1 := by
            rcases hw1 with rfl | rfl
            · exact hr
            · exact hr.drew
          have hx1 : Ext φ φ h h w w1 := by
            rcases hw1 with rfl | rfl
            · exact Ext.refl _ _ _
            · exact (Ext.refl _ _ _).drew
          have hO1 : w1.heap[pl.B]? = some (.mapIter (some pl'.B) since seen' last) := by rcases hw1 with rfl | rfl <;> exact hO
          have hh1 : w1.heap = w.heap := by rcases hw1 with rfl | rfl <;> rfl
          have hset : (setObj pl.B (.mapIter (some pl'.B) since (seen'.push e'.born) clock)).run P w1 = .ok () { w1 with heap := w1.heap.setIfInBounds pl.B (.mapIter (some pl'.B) since (seen'.push e'.born) clock) } := by
            simp [setObj, Sem.run, hO1]
          have hturn := hr1.turn hlo (o := .miter (some m) since (x.born :: seen) clock) hp ⟨_, hb, trivial⟩
            (w' := { w1 with heap := w1.heap.setIfInBounds pl.B (.mapIter (some pl'.B) since (seen'.push e'.born) clock) }) (by simp)
            (fun k hk => Array.getElem?_setIfInBounds_ne (Ne.symm hk))
            (by
              show OR P φ _ pl ((w1.heap.setIfInBounds pl.B _)[pl.B]?)
              rw [Array.getElem?_setIfInBounds_self_of_lt (by rw [hh1]; exact hBlt)]
              exact ⟨rfl, rfl, by simp [hseen, he'.born], .inr ⟨m, pl', rfl, hp', rfl⟩⟩) rfl rfl rfl (.inl trivial)
          refine ⟨_, .tuple #[.bool true, e'.key, e'.val], _, _, hgood, VR.tuple' (.cons (.bool true) (.cons he'.key (.cons he'.val .nil))), hturn.1, hx1.trans hturn.2, ?_⟩
          simp only [Instr.next, Sem.run_bind, run_getIter hO, run_getMap hO', Result.andThen_ok, hstr', hL, f1, f2]
          have hc : ((if L.isEmpty = true then #[none] else #[]) ++ (L ++ #[]).map some : Array (Option MapEntry)) = L.map some := by simp [hne]
          rw [hc]
          simp only [Bool.false_eq_true, if_false, Array.size_map, hlenL, Sem.run_bind, hch, Result.andThen_ok, Array.getElem?_map, he1, Option.map_some, hset]
          simp

theorem entryB_sound (hfl : ¬ good fl) (hr : HR P φ h w) {x x' : Value} {κ : Value → Heap → β} (hg : good (entryB fl x h κ)) (hx : VR φ x x') :
    ∃ v v', good (κ v h) ∧ VR φ v v' ∧ (Instr.entry x').run P w = .ok v' w := by
  unfold entryB at hg
  split at hg <;> try exact absurd hg hfl
  cases hx with
  | ptr hp =>
    rename_i b pl
    split at hg <;> try exact absurd hg hfl
    rename_i m since stamp seen stepped hb
    obtain ⟨m', seen', hO, hseen, h4⟩ := hr.iterAt hb hp
    rcases h4 with ⟨h5, _⟩ | ⟨b1, pl', h5, hp', rfl⟩
    · cases h5
    · cases h5
      split at hg <;> try exact absurd hg hfl
      rename_i es clock hm
      obtain ⟨es', hO', h2⟩ := hr.mapAt hm hp'
      split at hg <;> try exact absurd hg hfl
      rename_i hck; have hck := beq_t hck; subst hck
      split at hg <;> try exact absurd hg hfl
      rename_i e hf
      have hback : seen'.back? = some stamp := by
        have : seen' = (seen.reverse ++ [stamp]).toArray := Array.ext' (by simpa using hseen)
        rw [this]; simp
      have hfind : ∃ e', es'.find? (fun e => e.born == stamp) = some e' ∧ ER φ e e' := by
        rw [← Array.find?_toList]
        clear hO' hm
        generalize es'.toList = L at h2
        induction h2 with
        | nil => simp at hf
        | @cons a c l m hac _ ih =>
          simp only [List.find?_cons] at hf ⊢
          rw [beqNat] at hf
          rw [hac.born]
          split at hf
          · rename_i hq; cases hf; exact ⟨_, rfl, hac⟩
          · exact ih hf
      obtain ⟨e', hf', he'⟩ := hfind
      exact ⟨_, .tuple #[e'.key, e'.val], hg, VR.tuple' (.cons he'.key (.cons he'.val .nil)), by simp [Instr.entry, run_getIter hO, run_getMap hO', hback, hf']⟩

/-! ## copy, clear, append -/
/-- the first cells of a slice, in whatever world has that heap -/
theorem firstB_sound (hfl : ¬ good fl) (hr : HR P φ h w) {size n : Nat} {x x' : Value} {κ : List Value → β} (hg : good (firstB fl h size n x κ)) (hx : VR φ x x') (hsl : ∃ a m c, x = .slice a m c ∧ n ≤ m) :
    ∃ l l', good (κ l) ∧ F2 (VR φ) l l' ∧ l.length = n * size ∧ ∀ w1 : World, w1.heap = w.heap → (Builtin.firstCells size n x').run P w1 = .ok l'.toArray w1 := by
  obtain ⟨a, m, c, rfl, hnm⟩ := hsl
  unfold firstB at hg
  split at hg
  · rename_i h0
    have h0 : n * size = 0 := h0
    refine ⟨[], [], hg, .nil, h0.symm, fun w1 hw1 => ?_⟩
    cases hx <;> simp [Builtin.firstCells, h0, loadCells, loadCellsFrom]
  · rename_i k hk
    have hk : n * size = k + 1 := hk
    split at hg <;> try exact absurd hg hfl
    rename_i b o _ _ hxx
    cases hxx
    split at hg <;> try exact absurd hg hfl
    rename_i nn cc e op hb
    split at hg <;> try exact absurd hg hfl
    rename_i hle; have hle := ble_t hle
    obtain ⟨l, h1, h2, h3⟩ := loadN_good hfl _ _ _ _ _ hg
    simp only [List.append_nil] at h1
    have fin : ∀ pl, φ b = some pl → ∃ l', F2 (VR φ) l l' ∧ ∀ w1 : World, w1.heap = w.heap → (loadCells ⟨pl.B, o, none⟩ (n * size)).run P w1 = .ok l'.toArray w1 := by
      intro pl hp
      obtain ⟨l', h4, h5⟩ := hr.cellsAt hb hp (l := l) (off := o) (by rw [h2]; exact hle) h3
      exact ⟨l', h4, fun w1 hw1 => by have h5 := h5 w1 hw1; rw [h2] at h5; rw [hk]; exact h5⟩
    cases hx with
    | slice hp hn hc =>
      obtain ⟨l', h4, h5⟩ := fin _ hp
      exact ⟨l, l', h1, h4, by rw [h2, hk], fun w1 hw1 => by simpa [Builtin.firstCells] using h5 w1 hw1⟩
    | sliceOpen hp hn hc =>
      obtain ⟨l', h4, h5⟩ := fin _ hp
      exact ⟨l, l', h1, h4, by rw [h2, hk], fun w1 hw1 => by simpa [Builtin.firstCells] using h5 w1 hw1⟩
    | sliceAny _ a' c =>
      have : n = 0 := by omega
      subst this; simp at hk

theorem copyB_sound (hfl : ¬ good fl) {e s : Nat} {ty : TypeId} {ts : Array TypeId} (ht : ts[0]? = some t) (hu : P.underlying t = some (.slice e)) (hs : szOf P e = some s) (hr : HR P φ h w)
    {d d' x x' : Value} {κ : Value → Heap → β} (hg : good (copyB fl s d x h κ)) (hd : VR φ d d') (hx : VR φ x x') :
    ∃ v h' w', good (κ v h') ∧ VR φ v v ∧ HR P φ h' w' ∧ Ext φ φ h h' w w' ∧ (Builtin.copy_ ts ty #[d', x']).run P w = .ok v w' := by
  unfold copyB at hg
  split at hg <;> try exact absurd hg hfl
  rename_i base dLen dCap
  split at hg <;> try exact absurd hg hfl
  rename_i a n c
  rw [fnK_eq] at hg
  obtain ⟨base', dCap', hd'⟩ : ∃ base' dCap', d' = .slice base' dLen dCap' := by cases hd <;> exact ⟨_, _, rfl⟩
  obtain ⟨a', c', hx'⟩ : ∃ a' c', x' = .slice a' n c' := by cases hx <;> exact ⟨_, _, rfl⟩
  split at hg
  · rename_i h0
    have hf : (Builtin.firstCells s 0 x').run P w = .ok #[] w := by rw [hx']; cases a' <;> simp [Builtin.firstCells, loadCells, loadCellsFrom]
    have h0' : Nat.min n dLen = 0 := h0
    refine ⟨_, h, w, hg, .int _ _, hr, Ext.refl _ _ _, ?_⟩
    rw [hx'] at hf
    subst hd'; subst hx'
    cases base' <;> simp [Builtin.copy_, ht, run_und hu, run_size hs, Builtin.lenOf, h0', hf, storeCells, goInt]
  · rename_i k hk
    split at hg <;> try exact absurd hg hfl
    rename_i b o
    obtain ⟨l, l', g1, g2, g3, g4⟩ := firstB_sound hfl hr hg hx ⟨_, _, _, rfl, Nat.min_le_left _ _⟩
    split at g1 <;> try exact absurd g1 hfl
    rename_i nn cc e' op hb
    obtain ⟨k1, k2, k3⟩ := storeN_good hfl _ _ _ _ _ g1
    obtain ⟨hlo, k3⟩ := setBlock_good hfl k3
    have fin : ∀ pl, φ b = some pl → base' = some ⟨pl.B, o, none⟩ → ∃ v h' w', good (κ v h') ∧ VR φ v v ∧ HR P φ h' w' ∧ Ext φ φ h h' w w' ∧ (Builtin.copy_ ts ty #[d', x']).run P w = .ok v w' := by
      intro pl hp hbe
      obtain ⟨w', j1, j2, j3⟩ := hr.storeAt hlo hb hp g2 k1 k2
      refine ⟨_, _, w', k3, .int _ _, j2, j3, ?_⟩
      have g5 := g4 w rfl
      clear g4
      rw [hx'] at g5
      subst hd'; subst hx'; subst hbe
      have g4' : (Builtin.firstCells s (Nat.min n dLen) (.slice a' n c')).run P w = .ok l'.toArray w := g5
      simp [Builtin.copy_, ht, run_und hu, run_size hs, Builtin.lenOf, g4', j1, goInt]
    cases hd with
    | slice hp hn hc => cases hd'; exact fin _ hp rfl
    | sliceOpen hp hn hc => cases hd'; exact fin _ hp rfl
    | sliceAny a1 a2 c2 => have : Nat.min n 0 = 0 := Nat.min_zero n; rw [this] at hk; cases hk

theorem clearB_slice_sound (hfl : ¬ good fl) {e : Nat} {z : List Value} {ty : TypeId} {ts : Array TypeId} (ht : ts[0]? = some t) (hu : P.underlying t = some (.slice e)) (hz : zeroOf P e = some z) (hr : HR P φ h w)
    {x x' : Value} {κ : Value → Heap → β} (hg : good (clearB fl z x h κ)) (hx : VR φ x x') :
    ∃ h' w', good (κ (.tuple #[]) h') ∧ HR P φ h' w' ∧ Ext φ φ h h' w w' ∧ (Builtin.clear_ ts ty #[x']).run P w = .ok (.tuple #[]) w' := by
  obtain ⟨v, inf, hi, hzv, hzl, hbs⟩ := info_of_zero hz
  have noth : (Builtin.clear_ ts ty #[x']).run P w = .ok (.tuple #[]) w → good (κ (.tuple #[]) h) → ∃ h' w', good (κ (.tuple #[]) h') ∧ HR P φ h' w' ∧ Ext φ φ h h' w w' ∧ (Builtin.clear_ ts ty #[x']).run P w = .ok (.tuple #[]) w' :=
    fun h1 h2 => ⟨h, w, h2, hr, Ext.refl _ _ _, h1⟩
  unfold clearB at hg
  split at hg
  · cases hx; exact noth (by simp [Builtin.clear_, ht, run_und hu]) hg
  · refine noth ?_ hg
    cases hx <;> simp [Builtin.clear_, ht, run_und hu]
  · cases hx; exact noth (by simp [Builtin.clear_, ht, run_und hu]) hg
  · rename_i b o n c hn0
    split at hg <;> try exact absurd hg hfl
    rename_i nn cc e' op hb
    obtain ⟨k1, k2, k3⟩ := storeN_good hfl _ _ _ _ _ hg
    obtain ⟨hlo, k3⟩ := setBlock_good hfl k3
    have hzz : (Builtin.zeroCells v.cells n).toList = repeatL z n := by
      unfold Builtin.zeroCells
      rw [zeros_eq v.cells n _ rfl, hzl]
    have fin : ∀ pl c', φ b = some pl → x' = .slice (some ⟨pl.B, o, none⟩) n c' → ∃ h' w', good (κ (.tuple #[]) h') ∧ HR P φ h' w' ∧ Ext φ φ h h' w w' ∧ (Builtin.clear_ ts ty #[x']).run P w = .ok (.tuple #[]) w' := by
      intro pl c' hp hxe
      obtain ⟨w', j1, j2, j3⟩ := hr.storeAt hlo hb hp (basicL_VR (φ := φ) (repeatL_basic hbs n)) k1 k2
      refine ⟨_, w', k3, j2, j3, ?_⟩
      subst hxe
      cases n with
      | zero => exact (hn0 rfl).elim
      | succ n => simp [Builtin.clear_, ht, run_und hu, run_zero hi hzv, hzz, j1]
    cases hx with
    | slice hp hn hc => exact fin _ _ hp rfl
    | sliceOpen hp hn hc => exact fin _ _ hp rfl
    | sliceAny a1 a2 c2 => exact (hn0 rfl).elim
  · split at hg <;> try exact absurd hg hfl
    rename_i r es clock hb
    obtain ⟨hlo, hg⟩ := setBlock_good hfl hg
    cases hx with
    | map hp =>
      rename_i pl
      obtain ⟨es', hO, h2⟩ := hr.mapAt hb hp
      obtain ⟨w', j1, j2, j3⟩ := hr.mapSet hlo (es1 := []) (es1' := #[]) (clock' := clock) hb hp .nil
      exact ⟨_, w', hg, j2, j3, by simp [Builtin.clear_, ht, run_und hu, run_getMap hO, j1]⟩
  · exact absurd hg hfl

end Go.Vai
