/-
  PROVED HERE: a part of the proof, by a calculus of weakest conditions over an abstract heap (K15, K16, K17, K18, K19, K20, K21, K22, K23, K24, K25, K26).
-/
import Derived.Test.YtijmemedhkgplaaGreatKB
set_option linter.unusedVariables false
set_option linter.unusedSimpArgs false
set_option maxRecDepth 100000
namespace Go.Proofs
open Go.Vai Go.Clashes
structure HE where
  t : Int
  r : Int
  hb : Nat
  born : Nat
  q : Value
  w : Int
  Q : List R5
def toH (e : HE) : MapEntry := { key := nmV e.t e.r, val := .pointer (some ⟨e.hb, 0, none⟩), born := e.born }
def isN (t r : Int) (e : HE) : Bool := decide (t = e.t ∧ r = e.r)
theorem isN_f {t r : Int} {x : HE} : (!isN t r x) = true ↔ ¬ (t = x.t ∧ r = x.r) := by unfold isN; rw [Bool.not_eq_true', decide_eq_false_iff_not]
structure MapOk (M : List HE) (clock : Nat) : Prop where
  nm : M.Pairwise fun a b => ¬ (a.t = b.t ∧ a.r = b.r)
  bn : M.Pairwise fun a b => a.born ≠ b.born
  lt : ∀ e ∈ M, e.born < clock
theorem eqNk (h : Heap) (a b c d : Int) : eqB Tryz.prog h 100 38 (.agg ⟨[.int .i64 a, .int .i64 b]⟩) (.agg ⟨[.int .i64 c, .int .i64 d]⟩) =
    (match (some (ieqB a c)) with | some true => (match some (ieqB b d) with | some true => some true | r => r) | r => r) := by kernel_rfl
theorem eqN (h : Heap) (a b c d : Int) : eqB Tryz.prog h 100 38 (nmV a b) (nmV c d) = some (decide (a = c ∧ b = d)) := by
  unfold nmV
  rw [eqNk, ieqB_eq, ieqB_eq]
  by_cases h1 : a = c <;> by_cases h2 : b = d <;> simp [h1, h2]
theorem keyN (t r : Int) : keyOk Tryz.prog 20 38 (nmV t r) = true := by kernel_rfl
theorem veqN (t r : Int) : veq 3 (nmV t r) (nmV t r) = true := by unfold veq; exact veqL_ints 1 [t, r]
theorem snocK_eq (x : MapEntry) : ∀ (l : List MapEntry) (κ : List MapEntry → Prop), snocK x l κ = κ (l ++ [x]) := by
  intro l
  induction l with
  | nil => intro κ; rfl
  | cons a l ih => intro κ; exact ih _
theorem setAt_eq (f : MapEntry → MapEntry) : ∀ (l : List MapEntry) (j : Nat) (e : MapEntry) (κ : List MapEntry → Prop), l[j]? = some e → setAt f j l κ = κ (l.set j (f e)) := by
  intro l
  induction l with
  | nil => intro j e κ h; simp at h
  | cons a l ih =>
    intro j e κ h
    cases j with
    | zero => rw [List.getElem?_cons_zero] at h; cases h; rfl
    | succ j => rw [List.getElem?_cons_succ] at h; exact ih j e _ h
theorem delAt_eq : ∀ (l : List MapEntry) (j : Nat) (κ : List MapEntry → Prop), delAt j l κ = κ (l.eraseIdx j) := by
  intro l
  induction l with
  | nil => intro j κ; cases j <;> rfl
  | cons a l ih =>
    intro j κ
    cases j with
    | zero => rfl
    | succ j => exact ih j _
theorem findH (h : Heap) (t r : Int) : ∀ (M : List HE) (i : Nat), (findB Tryz.prog h 38 (nmV t r) (M.map toH) i = some none ∧ ∀ e ∈ M, ¬ (t = e.t ∧ r = e.r)) ∨
    ∃ (j : Nat) (e : HE), findB Tryz.prog h 38 (nmV t r) (M.map toH) i = some (some (i + j, toH e)) ∧ M[j]? = some e ∧ t = e.t ∧ r = e.r := by
  intro M
  induction M with
  | nil => intro i; exact .inl ⟨rfl, fun e he => nomatch he⟩
  | cons e M ih =>
    intro i
    have hf : findB Tryz.prog h 38 (nmV t r) ((e :: M).map toH) i = (match (some (decide (t = e.t ∧ r = e.r)) : Option Bool) with | some true => some (some (i, toH e)) | some false => findB Tryz.prog h 38 (nmV t r) (M.map toH) (Nat.succ i) | none => none) := by
      rw [← eqN h]; rfl
    rw [hf]
    by_cases h1 : t = e.t ∧ r = e.r
    · rw [dec_t h1]
      exact .inr ⟨0, e, rfl, rfl, h1.1, h1.2⟩
    · rw [dec_f h1]
      rcases ih (Nat.succ i) with ⟨g1, g2⟩ | ⟨j, e', g1, g2, g3, g4⟩
      · exact .inl ⟨g1, fun x hx => by rcases List.mem_cons.1 hx with rfl | hx; exact h1; exact g2 x hx⟩
      · exact .inr ⟨j + 1, e', by rw [show i + (j + 1) = Nat.succ i + j by omega]; exact g1, g2, g3, g4⟩
theorem look_miss {β : Type} {fl : β} {M : List HE} {clock : Nat} {h : Heap} {bm : Nat} (g : h.bl.get bm = some (.map (M.map toH) clock)) (t r : Int) (hn : ∀ e ∈ M, ¬ (t = e.t ∧ r = e.r)) (κ : Value → Heap → β) :
    lookupB fl Tryz.prog 38 (.pointer none) true (.map (some bm)) (nmV t r) h κ = κ (.tuple ⟨[.pointer none, .bool false]⟩) h := by
  unfold lookupB lookupE
  rw [keyN]
  simp only [g]
  rcases findH h t r M 0 with ⟨g1, _⟩ | ⟨j, e, _, g2, g3, g4⟩
  · rw [g1]
  · exact absurd (And.intro g3 g4) (hn e (List.mem_of_getElem? g2))
theorem MapOk.uniq {M : List HE} {clock : Nat} (o : MapOk M clock) {e e' : HE} (h : e ∈ M) (h' : e' ∈ M) (ht : e.t = e'.t) (hr : e.r = e'.r) : e = e' := by
  have : ∀ (L : List HE), (L.Pairwise fun a b => ¬ (a.t = b.t ∧ a.r = b.r)) → e ∈ L → e' ∈ L → e = e' := by
    intro L
    induction L with
    | nil => intro _ h; nomatch h
    | cons a L ih =>
      intro hp h1 h2
      rw [List.pairwise_cons] at hp
      rcases List.mem_cons.1 h1 with rfl | k1 <;> rcases List.mem_cons.1 h2 with rfl | k2
      · rfl
      · exact absurd ⟨ht, hr⟩ (hp.1 _ k2)
      · exact absurd ⟨ht.symm, hr.symm⟩ (hp.1 _ k1)
      · exact ih hp.2 k1 k2
  exact this M o.nm h h'
theorem look_hit {β : Type} {fl : β} {M : List HE} {clock : Nat} {h : Heap} {bm : Nat} (o : MapOk M clock) (g : h.bl.get bm = some (.map (M.map toH) clock)) {e : HE} (he : e ∈ M) (κ : Value → Heap → β) :
    lookupB fl Tryz.prog 38 (.pointer none) true (.map (some bm)) (nmV e.t e.r) h κ = κ (.tuple ⟨[.pointer (some ⟨e.hb, 0, none⟩), .bool true]⟩) h := by
  unfold lookupB lookupE
  rw [keyN]
  simp only [g]
  rcases findH h e.t e.r M 0 with ⟨g1, g2⟩ | ⟨j, e', g1, g2, g3, g4⟩
  · exact absurd ⟨rfl, rfl⟩ (g2 e he)
  · rw [g1]
    rw [o.uniq he (List.mem_of_getElem? g2) g3 g4]; rfl
theorem erase_filter {M : List HE} (hn : M.Pairwise fun a b => ¬ (a.t = b.t ∧ a.r = b.r)) {j : Nat} {e : HE} (hj : M[j]? = some e) : M.eraseIdx j = M.filter fun x => !isN e.t e.r x := by
  induction M generalizing j with
  | nil => simp at hj
  | cons a M ih =>
    rw [List.pairwise_cons] at hn
    cases j with
    | zero =>
      rw [List.getElem?_cons_zero] at hj; cases hj
      rw [List.eraseIdx_cons_zero, List.filter_cons_of_neg (by simp [isN])]
      exact (List.filter_eq_self.2 fun x hx => isN_f.2 (hn.1 x hx)).symm
    | succ j =>
      rw [List.getElem?_cons_succ] at hj
      have := hn.1 e (List.mem_of_getElem? hj)
      rw [List.eraseIdx_cons_succ, List.filter_cons_of_pos (p := fun x => !isN e.t e.r x) (isN_f.2 fun ⟨h1, h2⟩ => this ⟨h1.symm, h2.symm⟩), ih hn.2 hj]
theorem pw_perm {α : Type} {R : α → α → Prop} (hs : ∀ {a b}, R a b → R b a) {L L' : List α} (hp : L.Perm L') (h : L.Pairwise R) : L'.Pairwise R := (hp.pairwise_iff hs).1 h
theorem MapOk.put {M M' : List HE} {clock clock' : Nat} (o : MapOk M clock) (hc : clock ≤ clock') {e : HE} (hp : M'.Perm (M.filter (fun x => !isN e.t e.r x) ++ [e])) (hb : ∀ x ∈ M, ¬ (e.t = x.t ∧ e.r = x.r) → x.born ≠ e.born) (hlt : e.born < clock') : MapOk M' clock' := by
  have hm : ∀ x ∈ M.filter (fun x => !isN e.t e.r x), x ∈ M ∧ ¬ (e.t = x.t ∧ e.r = x.r) := fun x hx => by
    rw [List.mem_filter] at hx
    exact ⟨hx.1, isN_f.1 hx.2⟩
  refine ⟨pw_perm (fun h => fun ⟨a, b⟩ => h ⟨a.symm, b.symm⟩) hp.symm (pw_snoc (o.nm.filter _) fun x hx => fun ⟨a, b⟩ => (hm x hx).2 ⟨a.symm, b.symm⟩), pw_perm (fun h => h.symm) hp.symm (pw_snoc (o.bn.filter _) fun x hx => hb x (hm x hx).1 (hm x hx).2), fun x hx => ?_⟩
  rcases List.mem_append.1 (hp.mem_iff.1 hx) with h | h
  · exact Nat.lt_of_lt_of_le (o.lt x (hm x h).1) hc
  · rw [List.mem_singleton] at h; subst h; exact hlt
theorem putM_w {M : List HE} {clock : Nat} {h : Heap} {bm : Nat} (o : MapOk M clock) (g : h.bl.get bm = some (.map (M.map toH) clock)) (hlo : h.lo ≤ bm) (t r : Int) (hb : Nat) (q : Value) (w : Int) (Q : List R5) (κ : Value → Heap → Prop)
    (hk : ∀ M' clock' born, MapOk M' clock' → M'.Perm (M.filter (fun x => !isN t r x) ++ [⟨t, r, hb, born, q, w, Q⟩]) → κ undef ⟨h.nx, h.bl.upd bm (.map (M'.map toH) clock'), h.lo⟩) :
    mapUpdateB False Tryz.prog 38 (.map (some bm)) (nmV t r) (.pointer (some ⟨hb, 0, none⟩)) h κ := by
  unfold mapUpdateB
  rw [keyN]
  simp only [g]
  rcases findH h t r M 0 with ⟨g1, g2⟩ | ⟨j, e, g1, g2, g3, g4⟩
  · rw [g1]
    simp only
    rw [snocK_eq]
    simp only [fnK_eq]
    rw [setBlock_eq _ _ _ _ hlo]
    have hpm : (M ++ [(⟨t, r, hb, clock, q, w, Q⟩ : HE)]).Perm (M.filter (fun x => !isN t r x) ++ [⟨t, r, hb, clock, q, w, Q⟩]) := by
      rw [List.filter_eq_self.2 fun x hx => isN_f.2 (g2 x hx)]
    have := hk (M ++ [⟨t, r, hb, clock, q, w, Q⟩]) (clock + 1) clock (o.put (e := ⟨t, r, hb, clock, q, w, Q⟩) (Nat.le_succ _) hpm (fun x hx _ => Nat.ne_of_lt (o.lt x hx)) (Nat.lt_succ_self _)) hpm
    rw [List.map_append] at this
    exact this
  · rw [g1]
    simp only [toH, g3, g4, veqN]
    rw [Nat.zero_add, setAt_eq _ _ j (toH e) _ (by rw [List.getElem?_map, g2]; rfl), setBlock_eq _ _ _ _ hlo]
    subst g3 g4
    have hpm : (M.set j (⟨e.t, e.r, hb, e.born, q, w, Q⟩ : HE)).Perm (M.filter (fun x => !isN e.t e.r x) ++ [⟨e.t, e.r, hb, e.born, q, w, Q⟩]) := by
      rw [← erase_filter o.nm g2]
      obtain ⟨hj, _⟩ := List.getElem?_eq_some_iff.1 g2
      rw [List.set_eq_take_append_cons_drop, if_pos hj, List.eraseIdx_eq_take_drop_succ]
      exact (List.perm_middle).trans (List.perm_append_singleton _ _).symm
    have hne : ∀ x ∈ M, ¬ (e.t = x.t ∧ e.r = x.r) → x.born ≠ e.born := fun x hx hn hbn => by
      have : ∀ (L : List HE), (L.Pairwise fun a b => a.born ≠ b.born) → e ∈ L → x ∈ L → e = x := by
        intro L
        induction L with
        | nil => intro _ h; nomatch h
        | cons a L ih =>
          intro hp h1 h2
          rw [List.pairwise_cons] at hp
          rcases List.mem_cons.1 h1 with rfl | k1 <;> rcases List.mem_cons.1 h2 with rfl | k2
          · rfl
          · exact absurd hbn.symm (hp.1 _ k2)
          · exact absurd hbn (hp.1 _ k1)
          · exact ih hp.2 k1 k2
      have := this M o.bn (List.mem_of_getElem? g2) hx
      subst this
      exact hn ⟨rfl, rfl⟩
    have := hk (M.set j ⟨e.t, e.r, hb, e.born, q, w, Q⟩) clock e.born (o.put (e := ⟨e.t, e.r, hb, e.born, q, w, Q⟩) (Nat.le_refl _) hpm hne (o.lt e (List.mem_of_getElem? g2))) hpm
    rw [List.map_set] at this
    exact this
theorem erase_map {α β : Type} (f : α → β) : ∀ (l : List α) (j : Nat), (l.eraseIdx j).map f = (l.map f).eraseIdx j := by
  intro l
  induction l with
  | nil => intro j; rfl
  | cons a l ih =>
    intro j
    cases j with
    | zero => rfl
    | succ j => simp [ih j]
theorem delM_w {M : List HE} {clock : Nat} {h : Heap} {bm : Nat} (o : MapOk M clock) (g : h.bl.get bm = some (.map (M.map toH) clock)) (hlo : h.lo ≤ bm) (t r : Int) (κ : Value → Heap → Prop)
    (hk : ∀ h', h' = ⟨h.nx, h.bl.upd bm (.map ((M.filter (fun x => !isN t r x)).map toH) clock), h.lo⟩ ∨ (h' = h ∧ M.filter (fun x => !isN t r x) = M) → κ (.tuple ⟨[]⟩) h') :
    deleteB False Tryz.prog 38 (.map (some bm)) (nmV t r) h κ := by
  unfold deleteB
  rw [keyN]
  simp only [g]
  rcases findH h t r M 0 with ⟨g1, g2⟩ | ⟨j, e, g1, g2, g3, g4⟩
  · rw [g1]
    exact hk h (.inr ⟨rfl, List.filter_eq_self.2 fun x hx => isN_f.2 (g2 x hx)⟩)
  · rw [g1]
    simp only
    rw [Nat.zero_add, delAt_eq, setBlock_eq _ _ _ _ hlo]
    subst g3 g4
    refine hk _ (.inl ?_)
    rw [← erase_filter o.nm g2, erase_map]
theorem MapOk.filter {M : List HE} {clock : Nat} (o : MapOk M clock) (p : HE → Bool) : MapOk (M.filter p) clock := ⟨o.nm.filter _, o.bn.filter _, fun e he => o.lt e (List.mem_filter.1 he).1⟩
end Go.Proofs

namespace Go.Proofs
open Go.Vai Go.Clashes
def unseen (M : List HE) (seen : List Nat) : Nat := M.countP fun e => !seen.any (Nat.beq e.born)
theorem countP_lt {α : Type} {p q : α → Bool} : ∀ (L : List α), (∀ x ∈ L, q x = true → p x = true) → (∃ x ∈ L, p x = true ∧ q x = false) → L.countP q < L.countP p := by
  intro L
  induction L with
  | nil => rintro _ ⟨x, hx, _⟩; nomatch hx
  | cons a L ih =>
    intro h hx
    have hle : L.countP q ≤ L.countP p := List.countP_mono_left fun x hx => h x (.tail _ hx)
    rw [List.countP_cons, List.countP_cons]
    by_cases ha : p a = true ∧ q a = false
    · rw [ha.1, ha.2]; simp; omega
    · have ht : ∃ x ∈ L, p x = true ∧ q x = false := by
        obtain ⟨x, hx, h1⟩ := hx
        rcases List.mem_cons.1 hx with rfl | hx
        · exact absurd h1 ha
        · exact ⟨x, hx, h1⟩
      have := ih (fun x hx => h x (.tail _ hx)) ht
      have ha2 := h a (.head _)
      cases hq : q a with
      | false => simp; omega
      | true => rw [ha2 hq]; simp; omega
theorem unseen_lt {M : List HE} {seen : List Nat} {e : HE} (he : e ∈ M) (hn : seen.any (Nat.beq e.born) = false) : unseen M (e.born :: seen) < unseen M seen := by
  refine countP_lt M (fun x _ h => ?_) ⟨e, he, by rw [hn]; rfl, by simp⟩
  rw [List.any_cons, Bool.not_or, Bool.and_eq_true] at h
  exact h.2
theorem anyNext_of {b m since : Nat} {seen : List Nat} {clock : Nat} {h : Heap} {κ : Value → Heap → Prop} (hlo : h.lo ≤ b) : ∀ (es : List MapEntry) (e : MapEntry), (∀ x ∈ e :: es, x.born < since) → (∀ x ∈ e :: es, κ (.tuple ⟨[.bool true, x.key, x.val]⟩) ⟨h.nx, h.bl.upd b (.miter (some m) since (x.born :: seen) clock), h.lo⟩) → anyNext False And b m since seen clock h κ e es := by
  intro es
  induction es with
  | nil =>
    intro e hb hk
    unfold anyNext
    rw [Nat.ble_eq_true_of_le (show Nat.succ e.born ≤ since from hb e (.head _))]
    simp only
    rw [setBlock_eq _ _ _ _ hlo]
    exact hk e (.head _)
  | cons a es ih =>
    intro e hb hk
    unfold anyNext
    rw [Nat.ble_eq_true_of_le (show Nat.succ e.born ≤ since from hb e (.head _))]
    simp only
    rw [setBlock_eq _ _ _ _ hlo]
    exact ⟨hk e (.head _), ih a (fun x hx => hb x (.tail _ hx)) fun x hx => hk x (.tail _ hx)⟩
theorem next_w {M : List HE} {clock b bm : Nat} {seen : List Nat} {h : Heap} (o : MapOk M clock) (hb : h.bl.get b = some (.miter (some bm) clock seen clock)) (g : h.bl.get bm = some (.map (M.map toH) clock)) (hlo : h.lo ≤ b) (κ : Value → Heap → Prop)
    (hk0 : (∀ e ∈ M, seen.any (Nat.beq e.born) = true) → κ (.tuple ⟨[.bool false]⟩) h)
    (hk1 : ∀ e ∈ M, seen.any (Nat.beq e.born) = false → κ (.tuple ⟨[.bool true, nmV e.t e.r, .pointer (some ⟨e.hb, 0, none⟩)]⟩) ⟨h.nx, h.bl.upd b (.miter (some bm) clock (e.born :: seen) clock), h.lo⟩) :
    nextB False And (.pointer (some ⟨b, 0, none⟩)) h κ := by
  unfold nextB
  simp only [hb, g]
  have e1 : (!seen.isEmpty && !(M.map toH).isEmpty && (M.map toH).all (fun e => Nat.ble clock e.born)) = false := by
    cases M with
    | nil => simp
    | cons e M =>
      have : Nat.ble clock (toH e).born = false := by
        have := o.lt e (.head _)
        cases hc : Nat.ble clock (toH e).born with
        | false => rfl
        | true => have := Nat.le_of_ble_eq_true hc; simp only [toH] at this; omega
      rw [List.map_cons, List.all_cons, this]; simp
  rw [e1]
  simp only
  rw [List.filter_map]
  have hmem : ∀ x, x ∈ (M.filter ((fun e : MapEntry => !seen.any (Nat.beq e.born)) ∘ toH)).map toH → ∃ e ∈ M, seen.any (Nat.beq e.born) = false ∧ x = toH e := by
    intro x hx
    obtain ⟨e, he, rfl⟩ := List.mem_map.1 hx
    rw [List.mem_filter] at he
    exact ⟨e, he.1, by have := he.2; simpa [toH] using this, rfl⟩
  split
  · rename_i hnil
    refine hk0 fun e he => ?_
    cases hs : seen.any (Nat.beq e.born) with
    | true => rfl
    | false =>
      have : toH e ∈ (M.filter ((fun e : MapEntry => !seen.any (Nat.beq e.born)) ∘ toH)).map toH := List.mem_map.2 ⟨e, List.mem_filter.2 ⟨he, by simp only [Function.comp, toH, hs]; rfl⟩, rfl⟩
      rw [hnil] at this
      nomatch this
  · rename_i e es heq
    rw [heq] at hmem
    refine anyNext_of hlo es e (fun x hx => ?_) fun x hx => ?_
    · obtain ⟨y, hy, _, rfl⟩ := hmem x hx
      exact o.lt y hy
    · obtain ⟨y, hy, h1, rfl⟩ := hmem x hx
      exact hk1 y hy h1
theorem entry_w {β : Type} {fl : β} {M : List HE} {clock b bm : Nat} {seen : List Nat} {h : Heap} (o : MapOk M clock) {e : HE} (he : e ∈ M) (hb : h.bl.get b = some (.miter (some bm) clock (e.born :: seen) clock)) (g : h.bl.get bm = some (.map (M.map toH) clock)) (κ : Value → Heap → β) :
    entryB fl (.pointer (some ⟨b, 0, none⟩)) h κ = κ (.tuple ⟨[nmV e.t e.r, .pointer (some ⟨e.hb, 0, none⟩)]⟩) h := by
  unfold entryB
  simp only [hb, g]
  have e1 : Nat.beq clock clock = true := Nat.beq_refl _
  rw [e1]
  simp only
  have : (M.map toH).find? (fun x => Nat.beq x.born e.born) = some (toH e) := by
    have key : ∀ (L : List HE), (L.Pairwise fun a b => a.born ≠ b.born) → e ∈ L → (L.map toH).find? (fun x => Nat.beq x.born e.born) = some (toH e) := by
      intro L
      induction L with
      | nil => intro _ h; nomatch h
      | cons a L ih =>
        intro hp h1
        rw [List.pairwise_cons] at hp
        rw [List.map_cons, List.find?_cons]
        rcases List.mem_cons.1 h1 with rfl | k1
        · have : Nat.beq (toH e).born e.born = true := Nat.beq_refl _
          rw [this]
        · have : Nat.beq (toH a).born e.born = false := by
            cases hc : Nat.beq (toH a).born e.born with
            | false => rfl
            | true => exact absurd (Nat.eq_of_beq_eq_true hc) (hp.1 e k1)
          rw [this]
          exact ih hp.2 k1
    exact key M o.bn he
  rw [this]
  rfl
theorem range_eq {β : Type} {fl : β} {bm clock : Nat} {es : List MapEntry} {h : Heap} (g : h.bl.get bm = some (.map es clock)) (κ : Value → Heap → β) :
    rangeB fl (.map (some bm)) h κ = κ (.pointer (some ⟨h.nx, 0, none⟩)) ⟨h.nx + 1, h.bl.upd h.nx (.miter (some bm) clock [] clock), h.lo⟩ := by
  unfold rangeB
  simp only [g, newBlock_eq]
end Go.Proofs

namespace Go.Proofs
open Go.Vai Go.Clashes
structure HeadAt (h : Heap) (e : HE) : Prop where
  lt : e.hb < h.nx
  get : h.bl.get e.hb = some (headO e.t e.r e.q e.w)
  qv : QV h e.q e.Q
structure HeadOk (e : HE) : Prop where
  ne : e.Q ≠ []
  vq : VQ e.Q e.w
  stuck : stuckQ e.Q
  small : e.Q.length ≤ 128
structure BucketIs (h : Heap) (bb bm bp bl : Nat) (most : Nat) (M : List HE) (clock : Nat) (F : List Int) (B : List Bool) : Prop where
  ltb : bb < h.nx
  ltm : bm < h.nx
  lom : h.lo ≤ bm
  cellb : h.bl.get bb = some (cellsO [.int .i64 (most : Int), .pointer (some ⟨bp, 0, none⟩), .map (some bm)] 88 false)
  cellm : h.bl.get bm = some (.map (M.map toH) clock)
  ok : MapOk M clock
  heads : ∀ e ∈ M, HeadAt h e
  good : ∀ e ∈ M, HeadOk e
  pool : PoolIs h bp bl F B
  ne : bp ≠ bl
theorem HeadAt.le {h h' : Heap} {e : HE} (a : HeadAt h e) (l : Le h h') : HeadAt h' e := ⟨Nat.lt_of_lt_of_le a.lt l.nx, (l.get _ a.lt).trans a.get, a.qv.le l⟩
theorem PoolIs.le {h h' : Heap} {bp bl : Nat} {F : List Int} {B : List Bool} (p : PoolIs h bp bl F B) (l : Le h h') : PoolIs h' bp bl F B := by
  have ln := l.nx
  have ll := l.lo
  have pl := p.lt
  have fl := p.fr.lt
  obtain ⟨fs, hg, hpt⟩ := p.fr.cell
  refine ⟨⟨by omega, by rw [ll]; exact p.fr.lo, fs, (l.get _ fl).trans hg, ?_⟩, by omega, by rw [ll]; exact p.lo, (l.get _ pl).trans p.cell, p.ok, p.small⟩
  rcases hpt with e | ⟨b, G, e, k1, k2, k3, k4⟩
  · exact .inl e
  · exact .inr ⟨b, G, e, by omega, by omega, (l.get _ k1).trans k3, k4⟩
theorem BucketIs.le {h h' : Heap} {bb bm bp bl most : Nat} {M : List HE} {clock : Nat} {F : List Int} {B : List Bool} (s : BucketIs h bb bm bp bl most M clock F B) (l : Le h h') : BucketIs h' bb bm bp bl most M clock F B :=
  ⟨Nat.lt_of_lt_of_le s.ltb l.nx, Nat.lt_of_lt_of_le s.ltm l.nx, by rw [l.lo]; exact s.lom, (l.get _ s.ltb).trans s.cellb, (l.get _ s.ltm).trans s.cellm, s.ok, fun e he => (s.heads e he).le l, s.good, s.pool.le l, s.ne⟩
theorem eqBk (h : Heap) (b o : Nat) : eqB Tryz.prog h 100 25 (.pointer (some ⟨b, o, none⟩)) (.pointer none) = some false := by kernel_rfl
theorem bin_eqBk {β : Type} {fl : β} (cn : Bool) (b o : Nat) (h : Heap) (κ : Value → Heap → β) : binB fl Tryz.prog .eql 25 cn false (.pointer (some ⟨b, o, none⟩)) (.pointer none) h κ = κ (.bool false) h := by simp only [binB, eqBk, fbK_eq]
theorem eqHk (h : Heap) (b o : Nat) : eqB Tryz.prog h 100 85 (.pointer (some ⟨b, o, none⟩)) (.pointer none) = some false := by kernel_rfl
theorem bin_eqHk {β : Type} {fl : β} (cn : Bool) (b o : Nat) (h : Heap) (κ : Value → Heap → β) : binB fl Tryz.prog .eql 85 cn false (.pointer (some ⟨b, o, none⟩)) (.pointer none) h κ = κ (.bool false) h := by simp only [binB, eqHk, fbK_eq]
theorem eqH0 (h : Heap) : eqB Tryz.prog h 100 85 (.pointer none) (.pointer none) = some true := by kernel_rfl
theorem bin_eqH0 {β : Type} {fl : β} (cn : Bool) (h : Heap) (κ : Value → Heap → β) : binB fl Tryz.prog .eql 85 cn false (.pointer none) (.pointer none) h κ = κ (.bool true) h := by simp only [binB, eqH0, fbK_eq]
theorem none_w (bb : Nat) (h : Heap) (κ : Value → Heap → Prop) (hk : κ (.int .i64 5) h) : CallW Tryz.prog 67 [.pointer (some ⟨bb, 0, none⟩)] h κ := by
  refine callW_of mixed ?_
  rw [rs_67]
  simp(disch:=first|omega|(simp only[Wx];done)|(simp only[Wy];done)|(simp only[Wv];omega)|with_unfolding_all rfl)only[Wz,ptrTo,sliceTo, bin_eqBk]
  exact hk
theorem lenBk_w {h : Heap} {bb bm bp bl most : Nat} {M : List HE} {clock : Nat} {F : List Int} {B : List Bool} (s : BucketIs h bb bm bp bl most M clock F B) (κ : Value → Heap → Prop) (hk : κ (.int .i64 (M.length : Int)) h) :
    CallW Tryz.prog 15 [.pointer (some ⟨bb, 0, none⟩)] h κ := by
  refine callW_of mixed ?_
  rw [rs_15]
  have g := s.cellb
  have gm := s.cellm
  simp(disch:=first|omega|(simp only[Wx];done)|(simp only[Wy];done)|(simp only[Wv];omega)|with_unfolding_all rfl)only[Wz,ptrTo,sliceTo, bin_eqBk, nil_at, g, lenMap, gm, fnK_eq, List.length_map]
  exact hk
theorem MapOk.uniqB {M : List HE} {clock : Nat} (o : MapOk M clock) {e e' : HE} (h : e ∈ M) (h' : e' ∈ M) (hb : e.born = e'.born) : e = e' := by
  have : ∀ (L : List HE), (L.Pairwise fun a b => a.born ≠ b.born) → e ∈ L → e' ∈ L → e = e' := by
    intro L
    induction L with
    | nil => intro _ h; nomatch h
    | cons a L ih =>
      intro hp h1 h2
      rw [List.pairwise_cons] at hp
      rcases List.mem_cons.1 h1 with rfl | k1 <;> rcases List.mem_cons.1 h2 with rfl | k2
      · rfl
      · exact absurd hb (hp.1 _ k2)
      · exact absurd hb.symm (hp.1 _ k1)
      · exact ih hp.2 k1 k2
  exact this M o.bn h h'
theorem of_w {h : Heap} {bb bm bp bl most : Nat} {M : List HE} {clock : Nat} {F : List Int} {B : List Bool} (s : BucketIs h bb bm bp bl most M clock F B) (hlo : h.lo ≤ h.nx) (id : Int) (κ : Value → Heap → Prop)
    (hk0 : ∀ h', (∀ e ∈ M, findQ e.Q id = none) → Le h h' → κ (.pointer none) h')
    (hk1 : ∀ h' e p, e ∈ M → findQ e.Q id = some p → Le h h' → κ (.pointer (some ⟨e.hb, 0, none⟩)) h') :
    CallW Tryz.prog 48 [.pointer (some ⟨bb, 0, none⟩), .int .i64 id] h κ := by
  refine callW_of mixed ?_
  rw [rs_48]
  have g := s.cellb
  have gm := s.cellm
  simp(disch:=first|omega|(simp only[Wx];done)|(simp only[Wy];done)|(simp only[Wv];omega)|with_unfolding_all rfl)only[Wz,ptrTo,sliceTo, bin_eqBk, rs_48_1, nil_at, g, range_eq gm]
  obtain ⟨hA, eA⟩ : ∃ hA : Heap, hA = ⟨h.nx + 1, h.bl.upd h.nx (.miter (some bm) clock [] clock), h.lo⟩ := ⟨_, rfl⟩
  rw [← eA]
  have leA : Le h hA := by rw [eA]; exact (Le.refl h).new _
  have nA : hA.nx = h.nx + 1 := by rw [eA]
  have lA : hA.lo = h.lo := by rw [eA]
  have gA : hA.bl.get h.nx = some (.miter (some bm) clock [] clock) := by rw [eA]; exact T.get_upd_same _ _ _
  refine ⟨fun m l h1 => ∃ seen, m = unseen M seen ∧ h.nx < h1.nx ∧ Le h h1 ∧ h1.bl.get h.nx = some (.miter (some bm) clock seen clock) ∧ ∀ e ∈ M, seen.any (Nat.beq e.born) = true → findQ e.Q id = none, ⟨_, [], rfl, by omega, leA, gA, fun e _ he => by simp at he⟩, ?_⟩
  rintro m l h1 ⟨seen, rfl, n1, le1, g1, hs⟩
  have gm1 := (le1.get _ s.ltm).trans gm
  have l1 := le1.lo
  have n1' := le1.nx
  refine next_w s.ok g1 gm1 (by omega) _ ?_ ?_
  · intro hall
    simp(disch:=first|omega|(simp only[Wx];done)|(simp only[Wy];done)|(simp only[Wv];omega)|with_unfolding_all rfl)only[Wz,ptrTo,sliceTo]
    exact hk0 h1 (fun e he => hs e he (hall e he)) le1
  · intro e he hns
    have H := s.heads e he
    have hlt := H.lt
    have le2 : Le h ⟨h1.nx, h1.bl.upd h.nx (.miter (some bm) clock (e.born :: seen) clock), h1.lo⟩ := le1.set (by omega) _
    obtain ⟨h2, e2⟩ : ∃ h2 : Heap, h2 = ⟨h1.nx, h1.bl.upd h.nx (.miter (some bm) clock (e.born :: seen) clock), h1.lo⟩ := ⟨_, rfl⟩
    rw [← e2] at le2 ⊢
    have n2 : h2.nx = h1.nx := by rw [e2]
    have g2 : h2.bl.get h.nx = some (.miter (some bm) clock (e.born :: seen) clock) := by rw [e2]; exact T.get_upd_same _ _ _
    have gm2 := (le2.get _ s.ltm).trans gm
    have l2 := le2.lo
    obtain ⟨qx, qc, eq, _⟩ := (show Sl enc5 h e.q e.Q from H.qv.1)
    have gh := (le2.get _ hlt).trans H.get
    rw [eq] at gh
    simp(disch:=first|omega|(simp only[Wx];done)|(simp only[Wy];done)|(simp only[Wv];omega)|with_unfolding_all rfl)only[Wz,ptrTo,sliceTo, rs_48_0, entry_w s.ok he g2 gm2, nil_at, gh]
    refine findQ_w e.t e.r _ e.w id e.Q h2 _ (by rw [← eq]; exact H.qv.1.le le2) (by have := (s.good e he).small; omega) (by omega) ?_
    intro h3 le3
    have n3 := le3.nx
    have l3 := le3.lo
    have g3 := (le3.get h.nx (by omega)).trans g2
    have le03 := le2.trans le3
    cases hf : findQ e.Q id with
    | none =>
      simp(disch:=first|omega|(simp only[Wx];done)|(simp only[Wy];done)|(simp only[Wv];omega)|with_unfolding_all rfl)only[Wz,ptrTo,sliceTo, enc5]
      refine ⟨_, ?_, e.born :: seen, rfl, ?_, le03.new _, ?_, ?_⟩
      · exact unseen_lt he hns
      · show h.nx < h3.nx + 1; omega
      · exact g3
      · intro x hx hxs
        rw [List.any_cons, Bool.or_eq_true] at hxs
        rcases hxs with hb | hb
        · rw [s.ok.uniqB hx he (Nat.eq_of_beq_eq_true hb)]; exact hf
        · exact hs x hx hb
    | some p =>
      simp(disch:=first|omega|(simp only[Wx];done)|(simp only[Wy];done)|(simp only[Wv];omega)|with_unfolding_all rfl)only[Wz,ptrTo,sliceTo, enc5]
      exact hk1 _ e p he hf (le03.new _)
end Go.Proofs

namespace Go.Proofs
open Go.Vai Go.Clashes
structure FrQ (bm bp bl : Nat) (h h' : Heap) : Prop where
  nx : h.nx ≤ h'.nx
  lo : h'.lo = h.lo
  get : ∀ c, c < h.nx → c ≠ bm → c ≠ bp → c ≠ bl → (∀ vs, h.bl.get c ≠ some (cellsO vs 3 true)) → h'.bl.get c = h.bl.get c
  g2 : bp < h.nx → ∀ c, c < h.nx → c ≠ bm → c ≠ bp → c ≠ bl → ¬ FB h bp c → h'.bl.get c = h.bl.get c
  mv : bp < h.nx → ∀ c, c < h.nx → FB h' bp c → FB h bp c
theorem FrQ.refl (bm bp bl : Nat) (h : Heap) : FrQ bm bp bl h h := ⟨Nat.le_refl _, rfl, fun _ _ _ _ _ _ => rfl, fun _ _ _ _ _ _ _ => rfl, fun _ _ _ x => x⟩
theorem FrQ.trans {bm bp bl : Nat} {h h' h'' : Heap} (a : FrQ bm bp bl h h') (b : FrQ bm bp bl h' h'') : FrQ bm bp bl h h'' :=
  ⟨Nat.le_trans a.nx b.nx, b.lo.trans a.lo, fun c hc hm hn hl hi => (b.get c (Nat.lt_of_lt_of_le hc a.nx) hm hn hl (fun vs => by rw [a.get c hc hm hn hl hi]; exact hi vs)).trans (a.get c hc hm hn hl hi),
    fun hb c hc hm hn hl hi => (b.g2 (Nat.lt_of_lt_of_le hb a.nx) c (Nat.lt_of_lt_of_le hc a.nx) hm hn hl fun x => hi (a.mv hb c hc x)).trans (a.g2 hb c hc hm hn hl hi),
    fun hb c hc x => a.mv hb c hc (b.mv (Nat.lt_of_lt_of_le hb a.nx) c (Nat.lt_of_lt_of_le hc a.nx) x)⟩
theorem FrQ.of_le {bm bp bl : Nat} {h h' : Heap} (l : Le h h') : FrQ bm bp bl h h' := ⟨l.nx, l.lo, fun c hc _ _ _ _ => l.get c hc, fun _ c hc _ _ _ _ => l.get c hc, fun hb c _ x => (FB.congr (l.get bp hb)).1 x⟩
theorem FrQ.of_P {bm bp bl : Nat} {h h' : Heap} (f : FrP bp bl h h') : FrQ bm bp bl h h' := ⟨f.nx, f.lo, fun c hc _ hn hl hi => f.get c hc hn hl hi, fun hb c hc _ hn hl hi => f.g2 hb c hc hn hl hi, f.mv⟩
theorem FrQ.of_map {bm bp bl : Nat} (h : Heap) {es : List MapEntry} {cl : Nat} : FrQ bm bp bl h ⟨h.nx, h.bl.upd bm (.map es cl), h.lo⟩ := by
  refine ⟨Nat.le_refl _, rfl, fun c _ hm _ _ _ => T.get_updne _ _ (fun e => hm e.symm), fun _ c _ hm _ _ _ => T.get_updne _ _ (fun e => hm e.symm), fun _ c _ hx => ?_⟩
  by_cases e : bm = bp
  · subst e
    obtain ⟨n, cap, ls, hx⟩ := hx
    exact absurd ((T.get_upd_same _ _ _).symm.trans hx) cells_map
  · exact (FB.congr (T.get_updne _ _ e)).1 hx
theorem BucketIs.put {h : Heap} {bb bm bp bl most : Nat} {M M' : List HE} {clock clock' : Nat} {F : List Int} {B : List Bool} (s : BucketIs h bb bm bp bl most M clock F B) (o : MapOk M' clock')
    (hh : ∀ e ∈ M', HeadAt h e) (hg : ∀ e ∈ M', HeadOk e) : BucketIs ⟨h.nx, h.bl.upd bm (.map (M'.map toH) clock'), h.lo⟩ bb bm bp bl most M' clock' F B := by
  have gm := s.cellm
  have ne : ∀ c, (h.bl.get c ≠ some (.map (M.map toH) clock)) → (h.bl.upd bm (.map (M'.map toH) clock')).get c = h.bl.get c := fun c hc => T.get_updne _ _ (by rintro rfl; exact hc gm)
  have nc : ∀ {vs ty op}, (some (cellsO vs ty op) : Option AObj) ≠ some (.map (M.map toH) clock) := fun h => cells_map h.symm
  obtain ⟨fs, hgp, hpt⟩ := s.pool.fr.cell
  have k1 : (h.bl.upd bm (.map (M'.map toH) clock')).get bb = h.bl.get bb := ne bb (by rw [s.cellb]; exact nc)
  have k2 : (h.bl.upd bm (.map (M'.map toH) clock')).get bp = h.bl.get bp := ne bp (by rw [hgp]; exact nc)
  have k3 : (h.bl.upd bm (.map (M'.map toH) clock')).get bl = h.bl.get bl := ne bl (by rw [s.pool.cell]; exact nc)
  refine ⟨s.ltb, s.ltm, s.lom, k1.trans s.cellb, T.get_upd_same _ _ _, o, fun e he => ?_, hg, ⟨⟨s.pool.fr.lt, s.pool.fr.lo, fs, k2.trans hgp, ?_⟩, s.pool.lt, s.pool.lo, k3.trans s.pool.cell, s.pool.ok, s.pool.small⟩, s.ne⟩
  · have a := hh e he
    exact ⟨a.lt, (ne _ (by rw [a.get]; exact nc)).trans a.get, a.qv.put (fun vs op => by rw [gm]; exact cells_map) _⟩
  · rcases hpt with e | ⟨b, G, e, h1, h2, h3, h4⟩
    · exact .inl e
    · exact .inr ⟨b, G, e, h1, h2, (ne b (by rw [h3]; exact nc)).trans h3, h4⟩
theorem scan_len {Q : List R5} {W : Int} (v : VQ Q W) (n : Nat) : (scanQ n Q).1.length = Q.length := by
  have := congrArg List.length (scan_ok n v).2.1
  simpa using this
structure Settled (M M' : List HE) (t r w : Int) (Q : List R5) : Prop where
  gone : Q = [] → M' = M.filter fun x => !isN t r x
  put : Q ≠ [] → ∃ e, e.t = t ∧ e.r = r ∧ e.w = w ∧ e.Q = Q ∧ M'.Perm (M.filter (fun x => !isN t r x) ++ [e])
theorem settle_w {h : Heap} {bb bm bp bl most : Nat} {M : List HE} {clock : Nat} {F : List Int} {B : List Bool} (s : BucketIs h bb bm bp bl most M clock F B) (hlo : h.lo ≤ h.nx) (t r : Int) (q : Value) (w : Int) (Q : List R5) (κ : Value → Heap → Prop)
    (hq : Sl enc5 h q Q) (vq : VQ Q w) (hlen : Q.length ≤ 128)
    (hk : ∀ M' clock' v' h', BucketIs h' bb bm bp bl most M' clock' F B → Settled M M' t r w (scanQ (cntW Q + 1) Q).1 → OwnI h h' v' (scanQ (cntW Q + 1) Q).2 → FrQ bm bp bl h h' → κ v' h') :
    CallW Tryz.prog 66 [.pointer (some ⟨bb, 0, none⟩), hdV t r q w] h κ := by
  obtain ⟨qx, qc, rfl, _⟩ := (show Sl enc5 h q Q from hq)
  refine callW_of mixed ?_
  rw [rs_66]
  simp(disch:=first|omega|(simp only[Wx];done)|(simp only[Wy];done)|(simp only[Wv];omega)|with_unfolding_all rfl)only[Wz,ptrTo,sliceTo, hdV]
  obtain ⟨hA, e_hA⟩ : ∃ hA : Heap, hA = ⟨h.nx + 1, (h.bl.upd (h.nx) (headO t r (.slice qx Q.length qc) w)), h.lo⟩ := ⟨_, rfl⟩
  have le_hA : Le h hA := by subst e_hA; exact ((Le.refl h).new _)
  have g1 : hA.bl.get (h.nx) = some (headO t r (.slice qx Q.length qc) w) := by subst e_hA; exact T.get_upd_same _ _ _
  have n_hA : hA.nx = h.nx + 1 := by subst e_hA; rfl
  have l_hA : hA.lo = h.lo := by subst e_hA; rfl
  rw [← e_hA]
  clear e_hA
  refine scan_w t r _ w Q hA _ (hq.le le_hA) (by omega) (by omega) vq ?_
  intro q2 v2 h2 hq2 ho2 le2
  obtain ⟨vq2, hkey, hst, hgr⟩ := scan_ok (cntW Q + 1) vq
  have hl2 := scan_len vq (cntW Q + 1)
  generalize hQ2 : (scanQ (cntW Q + 1) Q).1 = Q2 at *
  generalize hI2 : (scanQ (cntW Q + 1) Q).2 = I2 at *
  obtain ⟨qx2, qc2, rfl, _⟩ := (show Sl enc5 h2 q2 Q2 from hq2.1)
  have n2 := le2.nx
  have l2 := le2.lo
  have g1 := (le2.get _ (by omega)).trans g1
  have hstk := hst (Nat.lt_succ_self _)
  simp(disch:=first|omega|(simp only[Wx];done)|(simp only[Wy];done)|(simp only[Wv];omega)|with_unfolding_all rfl)only[Wz,ptrTo,sliceTo, hdV, g1]
  obtain ⟨h3, e3⟩ : ∃ h3 : Heap, h3 = ⟨h2.nx, h2.bl.upd h.nx (headO t r (.slice qx2 Q2.length qc2) w), h2.lo⟩ := ⟨_, rfl⟩
  have le3 : Le h h3 := by rw [e3]; exact (le_hA.trans le2).set (by omega) _
  have g3 : h3.bl.get h.nx = some (headO t r (.slice qx2 Q2.length qc2) w) := by rw [e3]; exact T.get_upd_same _ _ _
  have n3 : h3.nx = h2.nx := by rw [e3]
  have l3 : h3.lo = h2.lo := by rw [e3]
  have hq3 : QV h3 (.slice qx2 Q2.length qc2) Q2 := by rw [e3]; exact hq2.put (fun vs op => by rw [g1]; exact cells_ty (by decide)) _
  have ho3 : OwnI h h3 v2 I2 := by
    rw [e3]
    exact Own.put (Own.base ho2 (by omega)) (by rw [g1]; exact cells_op) _
  rw [← e3]
  clear e3
  have s3 := s.le le3
  have gb := s3.cellb
  have gm := s3.cellm
  refine ⟨fun l h' => κ v2 h', ?_, fun l h' hk' => hk'⟩
  by_cases h0 : Q2 = []
  · subst h0
    simp(disch:=first|omega|(simp only[Wx];done)|(simp only[Wy];done)|(simp only[Wv];omega)|with_unfolding_all rfl)only[Wz,ptrTo,sliceTo, rs_66_2, g3, rs_66_0, nil_at, gb]
    refine delM_w s3.ok gm (by have := s3.lom; omega) t r _ ?_
    intro h4 hc
    have hset : Settled M (M.filter fun x => !isN t r x) t r w [] := ⟨fun _ => rfl, fun hn => absurd rfl hn⟩
    rcases hc with rfl | ⟨rfl, hM⟩
    · exact hk _ clock v2 _ (s3.put (s3.ok.filter _) (fun e he => s3.heads e (List.mem_filter.1 he).1) fun e he => s3.good e (List.mem_filter.1 he).1) hset (Own.put ho3 (by rw [gm]; exact cells_map) _) ((FrQ.of_le le3).trans (FrQ.of_map _))
    · rw [hM] at hset
      exact hk _ clock v2 _ s3 hset ho3 (FrQ.of_le le3)
  · have hpos : 0 < Q2.length := List.length_pos_iff.2 h0
    simp(disch:=first|omega|(simp only[Wx];done)|(simp only[Wy];done)|(simp only[Wv];omega)|with_unfolding_all rfl)only[Wz,ptrTo,sliceTo, rs_66_2, g3, dec_f (show ¬ (Q2.length : Int) = 0 by omega), rs_66_1, nil_at, gb]
    refine putM_w s3.ok gm (by have := s3.lom; omega) t r h.nx (.slice qx2 Q2.length qc2) w Q2 _ ?_
    intro M' clock' born o' hp
    have hsub : ∀ x ∈ M', x ∈ M ∨ x = ⟨t, r, h.nx, born, .slice qx2 Q2.length qc2, w, Q2⟩ := fun x hx => by
      rcases List.mem_append.1 (hp.mem_iff.1 hx) with hx | hx
      · exact .inl (List.mem_filter.1 hx).1
      · exact .inr (List.mem_singleton.1 hx)
    refine hk M' clock' v2 _ (s3.put o' (fun e he => ?_) fun e he => ?_) ⟨fun hn => absurd hn h0, fun _ => ⟨_, rfl, rfl, rfl, rfl, hp⟩⟩ (Own.put ho3 (by rw [gm]; exact cells_map) _) ((FrQ.of_le le3).trans (FrQ.of_map _))
    · rcases hsub e he with h1 | rfl
      · exact s3.heads e h1
      · exact ⟨by show h.nx < h3.nx; omega, g3, hq3⟩
    · rcases hsub e he with h1 | rfl
      · exact s3.good e h1
      · exact ⟨h0, vq2, hstk, by show Q2.length ≤ 128; omega⟩
end Go.Proofs

namespace Go.Proofs
open Go.Vai Go.Clashes
theorem find1_w (x : Int) (r : R5) (b : Nat) (h : Heap) (κ : Value → Heap → Prop) (hlo : h.lo ≤ h.nx) (hb : b < h.nx) (hg : h.bl.get b = some (cellsO [.int .i64 x] 3 false)) (hk : ∀ h', Le h h' → κ (.bool (decide (r.x = x))) h') :
    CallW Tryz.prog 53 [aggR r, ptrTo b] h κ := by
  have hk := hk _ ((Le.refl h).new (blkR r))
  refine callW_of mixed ?_
  rw [rs_53]
  simp(disch:=first|omega|(simp only[Wx];done)|(simp only[Wy];done)|(simp only[Wv];omega)|with_unfolding_all rfl)only[Wz,ptrTo,sliceTo, enc5, hg]
  exact hk
theorem findBk_w {h : Heap} {bb bm bp bl most : Nat} {M : List HE} {clock : Nat} {F : List Int} {B : List Bool} (s : BucketIs h bb bm bp bl most M clock F B) (hlo : h.lo ≤ h.nx) (t r x : Int) (κ : Value → Heap → Prop)
    (hk0 : ∀ h', (∀ e ∈ M, t = e.t → r = e.r → ∀ p ∈ e.Q, p.x ≠ x) → Le h h' → κ (.tuple ⟨[.int .i64 0, .bool false]⟩) h')
    (hk1 : ∀ h' e p, e ∈ M → t = e.t → r = e.r → p ∈ e.Q → p.x = x → Le h h' → κ (.tuple ⟨[.int .i64 p.id, .bool true]⟩) h') :
    CallW Tryz.prog 21 [.pointer (some ⟨bb, 0, none⟩), nmV t r, .int .i64 x] h κ := by
  refine callW_of mixed ?_
  rw [rs_21]
  simp(disch:=first|omega|(simp only[Wx];done)|(simp only[Wy];done)|(simp only[Wv];omega)|with_unfolding_all rfl)only[Wz,ptrTo,sliceTo, nmV]
  obtain ⟨hA, e_hA⟩ : ∃ hA : Heap, hA = ⟨h.nx + 1 + 1, ((h.bl.upd (h.nx) (cellsO [.int .i64 t, .int .i64 r] 38 false)).upd (h.nx + 1) (cellsO [.int .i64 x] 3 false)), h.lo⟩ := ⟨_, rfl⟩
  have le_hA : Le h hA := by subst e_hA; exact (((Le.refl h).new _).new _)
  have g1 : hA.bl.get (h.nx) = some (cellsO [.int .i64 t, .int .i64 r] 38 false) := by subst e_hA; exact (T.get_updne _ _ (by omega)).trans (T.get_upd_same _ _ _)
  have g3 : hA.bl.get (h.nx + 1) = some (cellsO [.int .i64 x] 3 false) := by subst e_hA; exact T.get_upd_same _ _ _
  have n_hA : hA.nx = h.nx + 1 + 1 := by subst e_hA; rfl
  have l_hA : hA.lo = h.lo := by subst e_hA; rfl
  rw [← e_hA]
  clear e_hA
  have sA := s.le le_hA
  have gb := sA.cellb
  have gm := sA.cellm
  by_cases hc : ∃ e ∈ M, t = e.t ∧ r = e.r
  case neg =>
    have hn : ∀ e ∈ M, ¬ (t = e.t ∧ r = e.r) := fun e he h => hc ⟨e, he, h⟩
    have eL := look_miss (β := Option Value) (fl := none) gm t r hn
    unfold nmV at eL
    simp(disch:=first|omega|(simp only[Wx];done)|(simp only[Wy];done)|(simp only[Wv];omega)|with_unfolding_all rfl)only[Wz,ptrTo,sliceTo, bin_eqBk, rs_21_2, nil_at, gb, g1, eL]
    exact hk0 _ (fun e he h1 h2 => absurd ⟨h1, h2⟩ (hn e he)) le_hA
  obtain ⟨e, he, rfl, rfl⟩ := hc
  have eL := look_hit (β := Option Value) (fl := none) sA.ok gm he
  unfold nmV at eL
  have H := sA.heads e he
  have hlt := H.lt
  have gd := sA.good e he
  have hsm := gd.small
  obtain ⟨qx, qc, eq, _⟩ := (show Sl enc5 hA e.q e.Q from H.qv.1)
  have gh := H.get
  rw [eq] at gh
  simp(disch:=first|omega|(simp only[Wx];done)|(simp only[Wy];done)|(simp only[Wv];omega)|with_unfolding_all rfl)only[Wz,ptrTo,sliceTo, bin_eqBk, rs_21_2, nil_at, gb, g1, eL, rs_21_1, gh]
  rw [← eq]
  refine indexR_w e.Q (fun p => decide (p.x = x)) hA _ _ _ H.qv.1 (by omega) ?_ ?_
  · intro p _ h1 κ1 l1 hk1
    simp(disch:=first|omega|(simp only[Wx];done)|(simp only[Wy];done)|(simp only[Wv];omega)|with_unfolding_all rfl)only[Wz,ptrTo,sliceTo, List.nil_append, List.cons_append]
    refine find1_w x p (h.nx + 1) h1 κ1 (by have := l1.lo; have := l1.nx; omega) (by have := l1.nx; omega) ((l1.get _ (by omega)).trans g3) hk1
  intro h2 le2
  have gh2 := (le2.get _ hlt).trans gh
  have le02 := le_hA.trans le2
  rcases find_cases e.Q (fun p => decide (p.x = x)) with ⟨ei, hf⟩ | ⟨i, p, ei, hp, h1, h2⟩
  · rw [ei]
    simp(disch:=first|omega|(simp only[Wx];done)|(simp only[Wy];done)|(simp only[Wv];omega)|with_unfolding_all rfl)only[Wz,ptrTo,sliceTo, optI]
    exact hk0 h2 (fun e' he' h1 h2 p hp => by rw [sA.ok.uniq he' he h1.symm h2.symm] at hp; have := hf p hp; simpa using this) le02
  · rw [ei]
    obtain ⟨b, o, hb, hix, _, hid, _⟩ := ld5 (H.qv.1.le le2) i hp
    rw [eq] at hix
    simp(disch:=first|omega|(simp only[Wx];done)|(simp only[Wy];done)|(simp only[Wv];omega)|with_unfolding_all rfl)only[Wz,ptrTo,sliceTo, optI, lt_f (show (0 : Int) ≤ (i : Int) by omega), rs_21_0, nil_at, gh2, hix, hid]
    exact hk1 _ e p he rfl rfl (List.mem_of_getElem? hp) (by simpa using h1) le02
end Go.Proofs

namespace Go.Proofs
open Go.Vai Go.Clashes
def idsM (M : List HE) : List Int := M.flatMap fun e => e.Q.map (·.id)
def lentL (B : List Bool) : List Int := ((List.range B.length).filter fun n => (B[n]?).getD false).map fun n : Nat => (n : Int)
theorem mem_lent {B : List Bool} {x : Int} : x ∈ lentL B ↔ ∃ n : Nat, x = (n : Int) ∧ B[n]? = some true := by
  unfold lentL
  rw [List.mem_map]
  constructor
  · rintro ⟨n, hn, rfl⟩
    rw [List.mem_filter, List.mem_range] at hn
    refine ⟨n, rfl, ?_⟩
    have h2 := hn.2
    rw [List.getElem?_eq_getElem hn.1] at h2 ⊢
    simpa using h2
  · rintro ⟨n, rfl, h⟩
    refine ⟨n, List.mem_filter.2 ⟨List.mem_range.2 (List.getElem?_eq_some_iff.1 h).1, by rw [h]; rfl⟩, rfl⟩
theorem nodup_ints {L : List Nat} (h : L.Nodup) : (L.map fun n : Nat => (n : Int)).Nodup := by
  rw [List.Nodup, List.pairwise_map]
  exact h.imp fun hne e => hne (Int.ofNat.inj e)
theorem lent_nodup (B : List Bool) : (lentL B).Nodup := nodup_ints (List.nodup_range.filter _)
theorem nodup_snoc {L : List Int} {x : Int} (h : L.Nodup) (hx : x ∉ L) : (L ++ [x]).Nodup := by
  rw [List.nodup_append]
  refine ⟨h, by simp, fun a ha b hb => ?_⟩
  rw [List.mem_singleton] at hb; subst hb
  rintro rfl; exact hx ha
theorem lent_take {B : List Bool} {n : Nat} (h : B[n]? = some false) : (lentL (B.set n true)).Perm (lentL B ++ [(n : Int)]) := by
  have hn : n < B.length := (List.getElem?_eq_some_iff.1 h).1
  refine (List.perm_ext_iff_of_nodup (lent_nodup _) (nodup_snoc (lent_nodup _) fun hm => ?_)).2 fun x => ?_
  · obtain ⟨k, e, hk⟩ := mem_lent.1 hm
    have : k = n := (Int.ofNat.inj e).symm
    subst this; rw [h] at hk; cases hk
  · rw [List.mem_append, List.mem_singleton, mem_lent, mem_lent]
    constructor
    · rintro ⟨k, rfl, hk⟩
      by_cases hkn : k = n
      · exact .inr (by rw [hkn])
      · rw [List.getElem?_set, if_neg (fun e => hkn e.symm)] at hk
        exact .inl ⟨k, rfl, hk⟩
    · rintro (⟨k, rfl, hk⟩ | rfl)
      · refine ⟨k, rfl, ?_⟩
        rw [List.getElem?_set]
        split
        · rename_i e; exact absurd (by rw [← e, h] at hk; exact hk : some false = some true) (by simp)
        · exact hk
      · exact ⟨n, rfl, by rw [List.getElem?_set, if_pos rfl, if_pos hn]⟩
theorem lent_give {B : List Bool} {n : Nat} (h : B[n]? = some true) : (lentL B).Perm (lentL (B.set n false) ++ [(n : Int)]) := by
  have hn : n < B.length := (List.getElem?_eq_some_iff.1 h).1
  have := lent_take (B := B.set n false) (n := n) (by rw [List.getElem?_set, if_pos rfl, if_pos hn])
  rw [List.set_set] at this
  have e : B.set n true = B := by
    refine List.ext_getElem? fun k => ?_
    rw [List.getElem?_set]
    split
    · rename_i e; rw [← e, h]
    · rfl
  rwa [e] at this
theorem lent_len {F : List Int} {B : List Bool} (o : FreeOk F B) : (lentL B).length + F.length = B.length := by
  have hp : F.Perm (((List.range B.length).filter fun n => !(B[n]?).getD false).map fun n : Nat => (n : Int)) := by
    refine (List.perm_ext_iff_of_nodup o.nodup (nodup_ints (List.nodup_range.filter _))).2 fun x => ?_
    rw [List.mem_map]
    constructor
    · intro hx
      obtain ⟨n, rfl⟩ : ∃ n : Nat, x = (n : Int) := ⟨x.toNat, by have := o.pos x hx; omega⟩
      have hb := (o.mem n).1 hx
      exact ⟨n, List.mem_filter.2 ⟨List.mem_range.2 (List.getElem?_eq_some_iff.1 hb).1, by rw [hb]; rfl⟩, rfl⟩
    · rintro ⟨n, hn, rfl⟩
      rw [List.mem_filter, List.mem_range] at hn
      refine (o.mem n).2 ?_
      have h2 := hn.2
      rw [List.getElem?_eq_getElem hn.1] at h2 ⊢
      simpa using h2
  rw [hp.length_eq]
  unfold lentL
  rw [List.length_map, List.length_map, ← List.countP_eq_length_filter, ← List.countP_eq_length_filter]
  have := List.length_eq_countP_add_countP (fun n => (B[n]?).getD false) (l := List.range B.length)
  rw [List.length_range] at this
  have e2 : List.countP (fun n => !(B[n]?).getD false) (List.range B.length) = List.countP (fun a => decide ¬(B[a]?).getD false = true) (List.range B.length) := List.countP_congr fun x _ => by simp
  omega
def IdsOk (M : List HE) (B : List Bool) : Prop := (idsM M).Perm (lentL B)
theorem idsM_append (M N : List HE) : idsM (M ++ N) = idsM M ++ idsM N := List.flatMap_append
theorem idsM_perm {M N : List HE} (h : M.Perm N) : (idsM M).Perm (idsM N) := h.flatMap_right _
theorem idsM_one (e : HE) : idsM [e] = e.Q.map (·.id) := by simp [idsM]
theorem split_has {M : List HE} {clock : Nat} (o : MapOk M clock) {e : HE} (he : e ∈ M) : M.Perm (M.filter (fun x => !isN e.t e.r x) ++ [e]) := by
  obtain ⟨j, hj, rfl⟩ := List.mem_iff_getElem.1 he
  rw [← erase_filter o.nm (List.getElem?_eq_getElem hj)]
  have : M = M.set j M[j] := by simp
  refine (List.Perm.of_eq this).trans ?_
  rw [List.set_eq_take_append_cons_drop, if_pos hj, List.eraseIdx_eq_take_drop_succ]
  exact (List.perm_middle).trans (List.perm_append_singleton _ _).symm
theorem split_not {M : List HE} {t r : Int} (hn : ∀ e ∈ M, ¬ (t = e.t ∧ r = e.r)) : M.filter (fun x => !isN t r x) = M := List.filter_eq_self.2 fun x hx => isN_f.2 (hn x hx)
theorem Settled.ids {M M' : List HE} {t r w : Int} {Q : List R5} (s : Settled M M' t r w Q) : (idsM M').Perm (idsM (M.filter fun x => !isN t r x) ++ Q.map (·.id)) := by
  by_cases h0 : Q = []
  · rw [s.gone h0, h0]; simp
  · obtain ⟨e, _, _, _, eq, hp⟩ := s.put h0
    have := idsM_perm hp
    rw [idsM_append, idsM_one, eq] at this
    exact this
theorem scan_ids {Q : List R5} {W : Int} (v : VQ Q W) (n : Nat) : (scanQ n Q).1.map (·.id) = Q.map (·.id) := by
  have := congrArg (List.map Prod.fst) (scan_ok n v).2.1
  simpa [List.map_map, Function.comp_def, keyR] using this
theorem IdsOk.find {M : List HE} {B : List Bool} (i : IdsOk M B) {e : HE} (he : e ∈ M) {p : R5} (hp : p ∈ e.Q) : ∃ n : Nat, p.id = (n : Int) ∧ B[n]? = some true :=
  mem_lent.1 (i.mem_iff.1 (List.mem_flatMap.2 ⟨e, he, List.mem_map.2 ⟨p, hp, rfl⟩⟩))
def IdsIn (M : List HE) (B : List Bool) : Prop := ∃ X, (idsM M ++ X).Perm (lentL B)
theorem IdsOk.sub {M : List HE} {B : List Bool} (i : IdsOk M B) : IdsIn M B := ⟨[], by rw [List.append_nil]; exact i⟩
theorem IdsIn.find {M : List HE} {B : List Bool} (i : IdsIn M B) {e : HE} (he : e ∈ M) {p : R5} (hp : p ∈ e.Q) : ∃ n : Nat, p.id = (n : Int) ∧ B[n]? = some true := by
  obtain ⟨X, hX⟩ := i
  exact mem_lent.1 (hX.mem_iff.1 (List.mem_append.2 (.inl (List.mem_flatMap.2 ⟨e, he, List.mem_map.2 ⟨p, hp, rfl⟩⟩))))
end Go.Proofs

namespace Go.Proofs
open Go.Vai Go.Clashes
theorem QV.frame {h h' : Heap} {q : Value} {Q : List R5} (v : QV h q Q) (hn : h.nx ≤ h'.nx) (hg : ∀ c vs op, c < h.nx → h.bl.get c = some (cellsO vs 47 op) → h'.bl.get c = h.bl.get c) : QV h' q Q := by
  obtain ⟨hs, ht⟩ := v
  constructor
  · obtain ⟨x, cap, rfl, h2⟩ := hs
    refine ⟨x, cap, rfl, fun hne => ?_⟩
    obtain ⟨b, o, rfl, h3, h4⟩ := h2 hne
    obtain ⟨h1, vs, op, h5⟩ := ht b o _ cap rfl (by intro h0; exact hne (List.eq_nil_of_length_eq_zero h0))
    refine ⟨b, o, rfl, Nat.lt_of_lt_of_le h3 hn, ?_⟩
    rw [hg b vs op h1 h5]; exact h4
  · intro b o n c hv hn0
    obtain ⟨h1, vs, op, h2⟩ := ht b o n c hv hn0
    exact ⟨Nat.lt_of_lt_of_le h1 hn, vs, op, (hg b vs op h1 h2).trans h2⟩
theorem HeadAt.pooled {h h' : Heap} {bp bl : Nat} {F : List Int} {B : List Bool} {e : HE} (a : HeadAt h e) (p : PoolIs h bp bl F B) (f : FrP bp bl h h') : HeadAt h' e := by
  have fn := f.nx
  obtain ⟨fs, hgp, hpt⟩ := p.fr.cell
  have gl := p.cell
  have key : ∀ c vs ty, c < h.nx → h.bl.get c = some (cellsO vs ty false) → ty ≠ 94 → ty ≠ 4 → h'.bl.get c = h.bl.get c := fun c vs ty hc hg h1 h2 =>
    f.get c hc (by rintro rfl; rw [hg] at hgp; exact cells_ty h1 hgp) (by rintro rfl; rw [hg] at gl; exact cells_ty h2 gl) fun ws => by rw [hg]; exact cells_op
  have al := a.lt
  refine ⟨by omega, (key _ _ _ al a.get (by decide) (by decide)).trans a.get, a.qv.frame fn fun c vs op hc hg => ?_⟩
  exact f.get c hc (by rintro rfl; rw [hg] at hgp; exact cells_ty (by decide) hgp) (by rintro rfl; rw [hg] at gl; exact cells_ty (by decide) gl) fun ws => by rw [hg]; exact cells_ty (by decide)
theorem BucketIs.pooled {h h' : Heap} {bb bm bp bl most : Nat} {M : List HE} {clock : Nat} {F F' : List Int} {B B' : List Bool} (s : BucketIs h bb bm bp bl most M clock F B) (p : PoolIs h' bp bl F' B') (f : FrP bp bl h h') : BucketIs h' bb bm bp bl most M clock F' B' := by
  have fn := f.nx
  have fl := f.lo
  have sb := s.ltb
  have sm := s.ltm
  obtain ⟨fs, hgp, hpt⟩ := s.pool.fr.cell
  have gl := s.pool.cell
  have key : ∀ c vs ty, c < h.nx → h.bl.get c = some (cellsO vs ty false) → ty ≠ 94 → ty ≠ 4 → h'.bl.get c = h.bl.get c := fun c vs ty hc hg h1 h2 =>
    f.get c hc (by rintro rfl; rw [hg] at hgp; exact cells_ty h1 hgp) (by rintro rfl; rw [hg] at gl; exact cells_ty h2 gl) fun ws => by rw [hg]; exact cells_op
  have gm := s.cellm
  have km : h'.bl.get bm = h.bl.get bm := f.get bm sm (by rintro rfl; rw [hgp] at gm; exact cells_map gm.symm) (by rintro rfl; rw [gl] at gm; exact cells_map gm.symm) fun ws => by rw [gm]; exact cells_map
  refine ⟨by omega, by omega, by rw [fl]; exact s.lom, (key bb _ _ sb s.cellb (by decide) (by decide)).trans s.cellb, km.trans gm, s.ok, fun e he => ?_, s.good, p, s.ne⟩
  exact (s.heads e he).pooled s.pool f
end Go.Proofs

namespace Go.Proofs
open Go.Vai Go.Clashes
theorem askR_id (Q : List R5) (W id x m : Int) : (askR Q W id x m).1.id = id := by unfold askR; split <;> rfl
structure Asked (h h' : Heap) (bb bm bp bl most : Nat) (M M' : List HE) (clock' : Nat) (F F' : List Int) (B : List Bool) (t r x m : Int) (n : Nat) (g : Bool) : Prop where
  is : BucketIs h' bb bm bp bl most M' clock' F' (B.set n true)
  free : ((n : Int) :: F').Perm F
  old : B[n]? = some false
  least : ∀ k, k < n → B[k]? = some true
  fr : FrQ bm bp bl h h'
  set : ∃ Q w, ((∃ e ∈ M, e.t = t ∧ e.r = r ∧ e.Q = Q ∧ e.w = w) ∨ ((∀ e ∈ M, ¬ (t = e.t ∧ r = e.r)) ∧ M.length < most ∧ Q = [] ∧ w = 0)) ∧ VQ Q w ∧ VQ (Q ++ [(askR Q w n x m).1]) (askR Q w n x m).2.1 ∧ g = (askR Q w n x m).2.2 ∧
    Settled M M' t r (askR Q w n x m).2.1 (scanQ (cntW (Q ++ [(askR Q w n x m).1]) + 1) (Q ++ [(askR Q w n x m).1])).1
theorem askTail_w {h h0 : Heap} {bb bm bp bl most : Nat} {M : List HE} {clock : Nat} {F : List Int} {B : List Bool} (s : BucketIs h bb bm bp bl most M clock F B) (hlo : h.lo ≤ h.nx) (l0 : Le h0 h) (ids : IdsIn M B) (hF : F.length ≤ 1000) (N : Nat) (hN : N ≤ 100000) (hw : ∀ e ∈ M, e.w ≤ N) (t r x m : Int) (am : askedM m = true) (l : List Value) (ph : Nat) (Q : List R5) (q : Value) (w : Int)
    (hl : slot l 18 = .pointer (some ⟨ph, 0, none⟩)) (hp : ph < h.nx) (gp : h.bl.get ph = some (headO t r q w)) (hq : QV h q Q) (vq : VQ Q w) (hsm : F ≠ [] → Q.length ≤ 127) (hwN : w ≤ N) (hx : ∀ p ∈ Q, p.x ≠ x) (hids : ∀ p ∈ Q, ∃ k : Nat, p.id = (k : Int) ∧ B[k]? = some true)
    (hold : ((∃ e ∈ M, e.t = t ∧ e.r = r ∧ e.Q = Q ∧ e.w = w) ∨ ((∀ e ∈ M, ¬ (t = e.t ∧ r = e.r)) ∧ M.length < most ∧ Q = [] ∧ w = 0)))
    (κ : Value → Heap → Prop)
    (hkF : ∀ h', F = [] → Le h0 h' → κ (.tuple ⟨[.int .i64 0, .bool false, .int .i64 8]⟩) h')
    (hkO : ∀ M' clock' F' h' n g, Asked h0 h' bb bm bp bl most M M' clock' F F' B t r x m n g → κ (.tuple ⟨[.int .i64 (n : Int), .bool g, .int .i64 0]⟩) h') :
    rs_27_2 (.pointer (some ⟨bb, 0, none⟩)) l (.int .i64 x) (.int .i64 m) h κ := by
  have gb := s.cellb
  simp(disch:=first|omega|(simp only[Wx];done)|(simp only[Wy];done)|(simp only[Wv];omega)|with_unfolding_all rfl)only[Wz,ptrTo,sliceTo, rs_27_2, nil_at, gb]
  refine take_w bp bl F B h _ s.pool hF hlo s.ne ?_ ?_
  · intro h0'
    simp(disch:=first|omega|(simp only[Wx];done)|(simp only[Wy];done)|(simp only[Wv];omega)|with_unfolding_all rfl)only[Wz,ptrTo,sliceTo]
    exact hkF h h0' l0
  intro h2 F' n p2 hp2 hb hlst fr2
  have s2 := s.pooled p2 fr2
  have n2 := fr2.nx
  have l2 := fr2.lo
  have hF0 : F ≠ [] := by rintro rfl; have := hp2.length_eq; simp at this
  have hsm := hsm hF0
  have H2 := HeadAt.pooled (e := ⟨t, r, ph, 0, q, w, Q⟩) ⟨hp, gp, hq⟩ s.pool fr2
  have g2 : h2.bl.get ph = some (headO t r q w) := H2.get
  have hq2 : QV h2 q Q := H2.qv
  obtain ⟨qx, qc, rfl, _⟩ := (show Sl enc5 h2 q Q from hq2.1)
  simp(disch:=first|omega|(simp only[Wx];done)|(simp only[Wy];done)|(simp only[Wv];omega)|with_unfolding_all rfl)only[Wz,ptrTo,sliceTo, rs_27_1, hl, nil_at, g2]
  have hn : ∀ p ∈ Q, p.id ≠ (n : Int) ∧ p.x ≠ x := fun p hp' => ⟨fun e => by
    obtain ⟨k, e1, e2⟩ := hids p hp'
    have : k = n := by omega
    rw [this, hb] at e2
    exact absurd e2 (by simp), hx p hp'⟩
  refine ask_w t r _ w (n : Int) x m Q h2 _ hq2.1 (by omega) (by omega) ⟨vq.w0, by omega⟩ (by omega) am hn ?_
  intro q3 h3 ho3 le3
  have n3 := le3.nx
  have l3 := le3.lo
  have v3 := vq.ask (id := (n : Int)) (x := x) (m := m) (by omega) am hn
  obtain ⟨qx3, qc3, rfl, _⟩ := (show Sl enc5 h3 q3 _ from ho3.sl)
  simp(disch:=first|omega|(simp only[Wx];done)|(simp only[Wy];done)|(simp only[Wv];omega)|with_unfolding_all rfl)only[Wz,ptrTo,sliceTo, hdV]
  have le4 : Le h2 ⟨h3.nx + 1, h3.bl.upd h3.nx (headO t r (.slice qx3 (Q ++ [(askR Q w n x m).1]).length qc3) (askR Q w n x m).2.1), h3.lo⟩ := le3.new _
  have lh4 : Le h3 ⟨h3.nx + 1, h3.bl.upd h3.nx (headO t r (.slice qx3 (Q ++ [(askR Q w n x m).1]).length qc3) (askR Q w n x m).2.1), h3.lo⟩ := (Le.refl h3).new _
  have s4 := s2.le le4
  refine settle_w s4 (by show h3.lo ≤ h3.nx + 1; omega) t r _ _ _ _ ((ho3.sl).le lh4) v3 (by simp; omega) ?_
  intro M' clock' v' h' s5 hset ho5 fr5
  exact hkO M' clock' F' h' n _ ⟨s5, hp2, hb, hlst, (FrQ.of_le l0).trans ((FrQ.of_P fr2).trans ((FrQ.of_le le4).trans fr5)), Q, w, hold, vq, v3, rfl, hset⟩
end Go.Proofs

namespace Go.Proofs
open Go.Vai Go.Clashes
theorem IdsIn.len {M : List HE} {F : List Int} {B : List Bool} (i : IdsIn M B) (o : FreeOk F B) {e : HE} (he : e ∈ M) : e.Q.length + F.length ≤ B.length := by
  have h1 := lent_len o
  obtain ⟨X, hX⟩ := i
  have h2 := hX.length_eq
  rw [List.length_append] at h2
  have : e.Q.length ≤ (idsM M).length := by
    have hs := List.append_of_mem he
    obtain ⟨s, t, rfl⟩ := hs
    simp [idsM]; omega
  omega
theorem askBk_w {h : Heap} {bb bm bp bl most : Nat} {M : List HE} {clock : Nat} {F : List Int} {B : List Bool} (s : BucketIs h bb bm bp bl most M clock F B) (hlo : h.lo ≤ h.nx) (ids : IdsIn M B) (N : Nat) (hN : N ≤ 100000) (hw : ∀ e ∈ M, e.w ≤ N) (t r x m : Int) (κ : Value → Heap → Prop)
    (hk2 : ∀ h', askedM m = false → Le h h' → κ (.tuple ⟨[.int .i64 0, .bool false, .int .i64 2]⟩) h')
    (hk4 : ∀ h' e p, askedM m = true → e ∈ M → t = e.t → r = e.r → p ∈ e.Q → p.x = x → Le h h' → κ (.tuple ⟨[.int .i64 0, .bool false, .int .i64 4]⟩) h')
    (hk8 : ∀ h', askedM m = true → (∀ e ∈ M, t = e.t → r = e.r → ∀ p ∈ e.Q, p.x ≠ x) → (F = [] ∨ ((∀ e ∈ M, ¬ (t = e.t ∧ r = e.r)) ∧ most ≤ M.length)) → Le h h' → κ (.tuple ⟨[.int .i64 0, .bool false, .int .i64 8]⟩) h')
    (hkO : ∀ M' clock' F' h' n g, askedM m = true → (∀ e ∈ M, t = e.t → r = e.r → ∀ p ∈ e.Q, p.x ≠ x) → Asked h h' bb bm bp bl most M M' clock' F F' B t r x m n g → κ (.tuple ⟨[.int .i64 (n : Int), .bool g, .int .i64 0]⟩) h') :
    CallW Tryz.prog 27 [.pointer (some ⟨bb, 0, none⟩), nmV t r, .int .i64 x, .int .i64 m] h κ := by
  refine callW_of mixed ?_
  rw [rs_27]
  have hFl : F.length ≤ 1000 := by have := lent_len s.pool.ok; have := s.pool.small; omega
  simp(disch:=first|omega|(simp only[Wx];done)|(simp only[Wy];done)|(simp only[Wv];omega)|with_unfolding_all rfl)only[Wz,ptrTo,sliceTo, nmV]
  obtain ⟨hA, e_hA⟩ : ∃ hA : Heap, hA = ⟨h.nx + 1, (h.bl.upd (h.nx) (cellsO [.int .i64 t, .int .i64 r] 38 false)), h.lo⟩ := ⟨_, rfl⟩
  have le_hA : Le h hA := by subst e_hA; exact ((Le.refl h).new _)
  have g1 : hA.bl.get (h.nx) = some (cellsO [.int .i64 t, .int .i64 r] 38 false) := by subst e_hA; exact T.get_upd_same _ _ _
  have n_hA : hA.nx = h.nx + 1 := by subst e_hA; rfl
  have l_hA : hA.lo = h.lo := by subst e_hA; rfl
  rw [← e_hA]
  clear e_hA
  have sA := s.le le_hA
  simp(disch:=first|omega|(simp only[Wx];done)|(simp only[Wy];done)|(simp only[Wv];omega)|with_unfolding_all rfl)only[Wz,ptrTo,sliceTo, bin_eqBk, rs_27_5]
  by_cases h0 : m = 0
  · simp(disch:=first|omega|(simp only[Wx];done)|(simp only[Wy];done)|(simp only[Wv];omega)|with_unfolding_all rfl)only[Wz,ptrTo,sliceTo, dec_t h0]
    exact hk2 _ (by simp [askedM, h0]) le_hA
  simp(disch:=first|omega|(simp only[Wx];done)|(simp only[Wy];done)|(simp only[Wv];omega)|with_unfolding_all rfl)only[Wz,ptrTo,sliceTo, dec_f h0]
  refine known_w m ?_
  cases hkn : kn m with
  | false =>
    simp(disch:=first|omega|(simp only[Wx];done)|(simp only[Wy];done)|(simp only[Wv];omega)|with_unfolding_all rfl)only[Wz,ptrTo,sliceTo]
    exact hk2 _ (by simp [askedM, hkn]) le_hA
  | true =>
  have am : askedM m = true := by simp [askedM, hkn, h0]
  simp(disch:=first|omega|(simp only[Wx];done)|(simp only[Wy];done)|(simp only[Wv];omega)|with_unfolding_all rfl)only[Wz,ptrTo,sliceTo, rs_27_4, g1]
  refine findBk_w sA (by omega) t r x _ ?_ ?_
  case _ =>
    intro h2 hno le2
    have le02 := le_hA.trans le2
    have s2 := sA.le le2
    have n2 := le2.nx
    have l2 := le2.lo
    have gb := s2.cellb
    have gm := s2.cellm
    have g1 := (le2.get _ (by omega)).trans g1
    by_cases hc : ∃ e ∈ M, t = e.t ∧ r = e.r
    · obtain ⟨e, he, rfl, rfl⟩ := hc
      have eL := look_hit (β := Option Value) (fl := none) s2.ok gm he
      unfold nmV at eL
      have H := s2.heads e he
      have hgd := s2.good e he
      simp(disch:=first|omega|(simp only[Wx];done)|(simp only[Wy];done)|(simp only[Wv];omega)|with_unfolding_all rfl)only[Wz,ptrTo,sliceTo, rs_27_3, nil_at, gb, g1, eL]
      refine ⟨fun l h' => slot l 18 = .pointer (some ⟨e.hb, 0, none⟩) ∧ HQ h2 h', ⟨rfl, rfl⟩, ?_⟩
      rintro l h' ⟨hl, hq⟩
      cases (show h2 = h' from hq)
      refine askTail_w s2 (by omega) le02 ids hFl N hN hw e.t e.r x m am l e.hb e.Q e.q e.w hl H.lt H.get H.qv hgd.vq (fun hF0 => ?_) (hw e he) (hno e he rfl rfl) (fun p hp => ids.find he hp) (.inl ⟨e, he, rfl, rfl, rfl, rfl⟩) κ (fun h' h1 h3 => hk8 h' am hno (.inl h1) h3) fun M' clock' F' h' n g hA => hkO M' clock' F' h' n g am hno hA
      have := ids.len s.pool.ok he
      have := s.pool.small
      have := List.length_pos_iff.2 hF0
      omega
    · have hn : ∀ e ∈ M, ¬ (t = e.t ∧ r = e.r) := fun e he h => hc ⟨e, he, h⟩
      have eL := look_miss (β := Option Value) (fl := none) gm t r hn
      unfold nmV at eL
      simp(disch:=first|omega|(simp only[Wx];done)|(simp only[Wy];done)|(simp only[Wv];omega)|with_unfolding_all rfl)only[Wz,ptrTo,sliceTo, rs_27_3, nil_at, gb, g1, eL]
      by_cases hfull : M.length < most
      · obtain ⟨hB, eB⟩ : ∃ hB : Heap, hB = ⟨h2.nx + 1, h2.bl.upd h2.nx (headO t r (.slice none 0 0) 0), h2.lo⟩ := ⟨_, rfl⟩
        have leB : Le h2 hB := by rw [eB]; exact (Le.refl h2).new _
        have gB : hB.bl.get h2.nx = some (headO t r (.slice none 0 0) 0) := by rw [eB]; exact T.get_upd_same _ _ _
        have nB : hB.nx = h2.nx + 1 := by rw [eB]
        have lB : hB.lo = h2.lo := by rw [eB]
        refine ⟨fun l h' => slot l 18 = .pointer (some ⟨h2.nx, 0, none⟩) ∧ HQ hB h', ?_, ?_⟩
        · simp(disch:=first|omega|(simp only[Wx];done)|(simp only[Wy];done)|(simp only[Wv];omega)|with_unfolding_all rfl)only[Wz,ptrTo,sliceTo, rs_27_0, nil_at, gb, g1, lenMap, gm, fnK_eq, List.length_map, dec_t (show Int.ofNat M.length < (most : Int) from by show (M.length : Int) < _; omega), Bool.not_true]
          exact ⟨trivial, eB⟩
        · rintro l h' ⟨hl, hq⟩
          cases (show hB = h' from hq)
          have sB := s2.le leB
          exact askTail_w sB (by omega) (le02.trans leB) ids hFl N hN hw t r x m am l h2.nx [] (.slice none 0 0) 0 hl (by omega) gB ⟨Sl.nil _ _ _, fun b o n c hv _ => nomatch hv⟩ VQ.nil (fun _ => by simp) (by omega) (fun p hp => nomatch hp) (fun p hp => nomatch hp) (.inr ⟨hn, hfull, rfl, rfl⟩) κ (fun h' h1 h3 => hk8 h' am hno (.inl h1) h3) fun M' clock' F' h' n g hA => hkO M' clock' F' h' n g am hno hA
      · refine ⟨fun l h' => False, ?_, fun _ _ h => h.elim⟩
        simp(disch:=first|omega|(simp only[Wx];done)|(simp only[Wy];done)|(simp only[Wv];omega)|with_unfolding_all rfl)only[Wz,ptrTo,sliceTo, rs_27_0, nil_at, gb, g1, lenMap, gm, fnK_eq, List.length_map, dec_f (show ¬ Int.ofNat M.length < (most : Int) from by show ¬ (M.length : Int) < _; omega), Bool.not_false]
        exact hk8 h2 am hno (.inr ⟨hn, by omega⟩) le02
  case _ =>
    intro h2 e p he ht hr hp hx le2
    simp(disch:=first|omega|(simp only[Wx];done)|(simp only[Wy];done)|(simp only[Wv];omega)|with_unfolding_all rfl)only[Wz,ptrTo,sliceTo]
    exact hk4 h2 e p am he ht hr hp hx (le_hA.trans le2)
end Go.Proofs

namespace Go.Proofs
open Go.Vai Go.Clashes
structure Moved (h h' : Heap) (bb bm bp bl most : Nat) (M M' : List HE) (clock' : Nat) (F' : List Int) (B' : List Bool) (e : HE) (Q1 : List R5) (w1 : Int) : Prop where
  is : BucketIs h' bb bm bp bl most M' clock' F' B'
  fr : FrQ bm bp bl h h'
  vq : VQ Q1 w1
  set : Settled M M' e.t e.r w1 (scanQ (cntW Q1 + 1) Q1).1
theorem findQ_at {Q : List R5} {W : Int} (v : VQ Q W) {id : Int} {p : R5} (hf : findQ Q id = some p) : ∃ i : Nat, Q[i]? = some p ∧ p.id = id := by
  obtain ⟨h1, h2⟩ := findQ_some hf
  obtain ⟨i, hi⟩ := List.mem_iff_getElem?.1 h1
  exact ⟨i, hi, h2⟩
theorem upgradeBk_w {h : Heap} {bb bm bp bl most : Nat} {M : List HE} {clock : Nat} {F : List Int} {B : List Bool} (s : BucketIs h bb bm bp bl most M clock F B) (hlo : h.lo ≤ h.nx) (N : Nat) (hN : N ≤ 100000) (hw : ∀ e ∈ M, e.w ≤ N) (id m : Int) (κ : Value → Heap → Prop)
    (hk2 : ∀ h', askedM m = false → Le h h' → κ (.tuple ⟨[.bool false, .int .i64 2]⟩) h')
    (hk5 : ∀ h', askedM m = true → (∀ e ∈ M, findQ e.Q id = none) → Le h h' → κ (.tuple ⟨[.bool false, .int .i64 5]⟩) h')
    (hk7 : ∀ h' e p, askedM m = true → e ∈ M → findQ e.Q id = some p → 0 < p.s → Le h h' → κ (.tuple ⟨[.bool false, .int .i64 7]⟩) h')
    (hk0 : ∀ h' M' clock' e p i, askedM m = true → e ∈ M → e.Q[i]? = some p → findQ e.Q id = some p → ¬ 0 < p.s → Moved h h' bb bm bp bl most M M' clock' F B e (e.Q.set i (upgR e.Q e.w p m).1) (upgR e.Q e.w p m).2.1 → κ (.tuple ⟨[.bool (upgR e.Q e.w p m).2.2, .int .i64 0]⟩) h') :
    CallW Tryz.prog 34 [.pointer (some ⟨bb, 0, none⟩), .int .i64 id, .int .i64 m] h κ := by
  refine callW_of mixed ?_
  rw [rs_34]
  simp(disch:=first|omega|(simp only[Wx];done)|(simp only[Wy];done)|(simp only[Wv];omega)|with_unfolding_all rfl)only[Wz,ptrTo,sliceTo, bin_eqBk, rs_34_1]
  refine of_w s hlo id _ ?_ ?_
  · intro h1 hno le1
    have n1 := le1.nx
    have l1 := le1.lo
    simp(disch:=first|omega|(simp only[Wx];done)|(simp only[Wy];done)|(simp only[Wv];omega)|with_unfolding_all rfl)only[Wz,ptrTo,sliceTo, bin_eqH0]
    obtain ⟨hA, e_hA⟩ : ∃ hA : Heap, hA = ⟨h1.nx + 1, (h1.bl.upd (h1.nx) (headO 0 0 (.slice none 0 0) 0)), h1.lo⟩ := ⟨_, rfl⟩
    have le_hA : Le h1 hA := by subst e_hA; exact ((Le.refl h1).new _)
    have g7 : hA.bl.get (h1.nx) = some (headO 0 0 (.slice none 0 0) 0) := by subst e_hA; exact T.get_upd_same _ _ _
    have n_hA : hA.nx = h1.nx + 1 := by subst e_hA; rfl
    have l_hA : hA.lo = h1.lo := by subst e_hA; rfl
    rw [← e_hA]
    clear e_hA
    refine ⟨fun l h' => slot l 4 = .pointer (some ⟨h1.nx, 0, none⟩) ∧ HQ hA h', ⟨rfl, rfl⟩, ?_⟩
    rintro l h' ⟨hl, hq⟩
    cases (show hA = h' from hq)
    simp(disch:=first|omega|(simp only[Wx];done)|(simp only[Wy];done)|(simp only[Wv];omega)|with_unfolding_all rfl)only[Wz,ptrTo,sliceTo, rs_34_0, hl, nil_at, g7]
    refine upgradeQ_w 0 0 _ 0 id m [] hA _ (Sl.nil _ _ _) (by simp) (by omega) (by omega) ?_ ?_ ?_ ?_
    · intro ha h2 le2
      have := le2.nx
      have := le2.lo
      simp(disch:=first|omega|(simp only[Wx];done)|(simp only[Wy];done)|(simp only[Wv];omega)|with_unfolding_all rfl)only[Wz,ptrTo,sliceTo, hdV]
      exact hk2 _ ha (((le1.trans le_hA).trans le2).new _)
    · intro ha _ h2 le2
      have := le2.nx
      have := le2.lo
      simp(disch:=first|omega|(simp only[Wx];done)|(simp only[Wy];done)|(simp only[Wv];omega)|with_unfolding_all rfl)only[Wz,ptrTo,sliceTo, hdV]
      exact hk5 _ ha hno (((le1.trans le_hA).trans le2).new _)
    · intro ha p hf; cases hf
    · intro ha i p hi; simp at hi
  · intro h1 e p0 he hf0 le1
    have n1 := le1.nx
    have l1 := le1.lo
    have s1 := s.le le1
    have H := s1.heads e he
    have hlt := H.lt
    have gd := s1.good e he
    have hsm := gd.small
    obtain ⟨qx, qc, eq, _⟩ := (show Sl enc5 h1 e.q e.Q from H.qv.1)
    have gh := H.get
    rw [eq] at gh
    have we := hw e he
    simp(disch:=first|omega|(simp only[Wx];done)|(simp only[Wy];done)|(simp only[Wv];omega)|with_unfolding_all rfl)only[Wz,ptrTo,sliceTo, bin_eqHk]
    refine ⟨fun l h' => slot l 4 = .pointer (some ⟨e.hb, 0, none⟩) ∧ HQ h1 h', ⟨rfl, rfl⟩, ?_⟩
    rintro l h' ⟨hl, hq⟩
    cases (show h1 = h' from hq)
    simp(disch:=first|omega|(simp only[Wx];done)|(simp only[Wy];done)|(simp only[Wv];omega)|with_unfolding_all rfl)only[Wz,ptrTo,sliceTo, rs_34_0, hl, nil_at, gh]
    refine upgradeQ_w e.t e.r _ e.w id m e.Q h1 _ (by rw [← eq]; exact H.qv.1) (by omega) (by omega) ⟨gd.vq.w0, by omega⟩ ?_ ?_ ?_ ?_
    · intro ha h2 le2
      have := le2.nx
      have := le2.lo
      simp(disch:=first|omega|(simp only[Wx];done)|(simp only[Wy];done)|(simp only[Wv];omega)|with_unfolding_all rfl)only[Wz,ptrTo,sliceTo, hdV]
      exact hk2 _ ha ((le1.trans le2).new _)
    · intro ha hf; rw [hf] at hf0; cases hf0
    · intro ha p hf hs h2 le2
      have := le2.nx
      have := le2.lo
      simp(disch:=first|omega|(simp only[Wx];done)|(simp only[Wy];done)|(simp only[Wv];omega)|with_unfolding_all rfl)only[Wz,ptrTo,sliceTo, hdV]
      exact hk7 _ e p ha he hf hs ((le1.trans le2).new _)
    · intro ha i p hi hf hs q' h2 hq2 le2
      have n2 := le2.nx
      have l2 := le2.lo
      obtain ⟨qx2, qc2, rfl, _⟩ := (show Sl enc5 h2 q' _ from hq2.1)
      have vu := gd.vq.upg hi hs ha
      simp(disch:=first|omega|(simp only[Wx];done)|(simp only[Wy];done)|(simp only[Wv];omega)|with_unfolding_all rfl)only[Wz,ptrTo,sliceTo, hdV]
      have le3 : Le h1 ⟨h2.nx + 1, h2.bl.upd h2.nx (headO e.t e.r (.slice qx2 (e.Q.set i (upgR e.Q e.w p m).1).length qc2) (upgR e.Q e.w p m).2.1), h2.lo⟩ := le2.new _
      have lh3 : Le h2 ⟨h2.nx + 1, h2.bl.upd h2.nx (headO e.t e.r (.slice qx2 (e.Q.set i (upgR e.Q e.w p m).1).length qc2) (upgR e.Q e.w p m).2.1), h2.lo⟩ := (Le.refl h2).new _
      refine settle_w (s1.le le3) (by show h2.lo ≤ h2.nx + 1; omega) e.t e.r _ _ _ _ (hq2.1.le lh3) vu (by rw [List.length_set]; omega) ?_
      intro M' clock' v' h' s5 hset _ fr5
      exact hk0 h' M' clock' e p i ha he hi hf hs ⟨s5, (FrQ.of_le (le1.trans le3)).trans fr5, vu, hset⟩
theorem leaveBk_w {h : Heap} {bb bm bp bl most : Nat} {M : List HE} {clock : Nat} {F : List Int} {B : List Bool} (s : BucketIs h bb bm bp bl most M clock F B) (hlo : h.lo ≤ h.nx) (ids : IdsIn M B) (id : Int) (κ : Value → Heap → Prop)
    (hk5 : ∀ h', (∀ e ∈ M, findQ e.Q id = none) → Le h h' → κ (.tuple ⟨[.slice none 0 0, .int .i64 5]⟩) h')
    (hk0 : ∀ h' M' clock' F' v' e p (n : Nat), e ∈ M → findQ e.Q id = some p → id = (n : Int) → B[n]? = some true → F'.Perm (F ++ [(n : Int)]) → Moved h h' bb bm bp bl most M M' clock' F' (B.set n false) e (e.Q.filter fun r => !placeR id r) e.w → OwnI h h' v' (scanQ (cntW (e.Q.filter fun r => !placeR id r) + 1) (e.Q.filter fun r => !placeR id r)).2 → κ (.tuple ⟨[v', .int .i64 0]⟩) h') :
    CallW Tryz.prog 30 [.pointer (some ⟨bb, 0, none⟩), .int .i64 id] h κ := by
  refine callW_of mixed ?_
  rw [rs_30]
  refine of_w s hlo id _ ?_ ?_
  · intro h1 hno le1
    simp(disch:=first|omega|(simp only[Wx];done)|(simp only[Wy];done)|(simp only[Wv];omega)|with_unfolding_all rfl)only[Wz,ptrTo,sliceTo, bin_eqH0]
    refine none_w bb h1 _ ?_
    exact hk5 h1 hno le1
  · intro h1 e p he hf le1
    have n1 := le1.nx
    have l1 := le1.lo
    have s1 := s.le le1
    have H := s1.heads e he
    have hlt := H.lt
    have gd := s1.good e he
    have hsm := gd.small
    obtain ⟨qx, qc, eq, _⟩ := (show Sl enc5 h1 e.q e.Q from H.qv.1)
    have gh := H.get
    rw [eq] at gh
    obtain ⟨n, en, hbn⟩ := ids.find he (findQ_some hf).1
    have eid : id = (n : Int) := by rw [← en]; exact (findQ_some hf).2.symm
    have hFl : F.length ≤ 1000 := by have := lent_len s.pool.ok; have := s.pool.small; omega
    simp(disch:=first|omega|(simp only[Wx];done)|(simp only[Wy];done)|(simp only[Wv];omega)|with_unfolding_all rfl)only[Wz,ptrTo,sliceTo, bin_eqHk, rs_30_0, nil_at, gh]
    refine leave_w e.t e.r _ e.w id e.Q h1 _ (by rw [← eq]; exact H.qv.1) (by omega) (by omega) (by rw [hf]; simp) ?_
    intro q' h2 hq2 le2
    have n2 := le2.nx
    have l2 := le2.lo
    obtain ⟨qx2, qc2, rfl, _⟩ := (show Sl enc5 h2 q' _ from hq2.1)
    have s2 := s1.le le2
    have gb := s2.cellb
    have hlb := s2.ltb
    simp(disch:=first|omega|(simp only[Wx];done)|(simp only[Wy];done)|(simp only[Wv];omega)|with_unfolding_all rfl)only[Wz,ptrTo,sliceTo, hdV]
    obtain ⟨h3, e3⟩ : ∃ h3 : Heap, h3 = ⟨h2.nx + 1, h2.bl.upd h2.nx (headO e.t e.r (.slice qx2 (e.Q.filter fun r => !placeR id r).length qc2) e.w), h2.lo⟩ := ⟨_, rfl⟩
    have le3 : Le h2 h3 := by rw [e3]; exact (Le.refl h2).new _
    have g3 : h3.bl.get h2.nx = some (headO e.t e.r (.slice qx2 (e.Q.filter fun r => !placeR id r).length qc2) e.w) := by rw [e3]; exact T.get_upd_same _ _ _
    have n3 : h3.nx = h2.nx + 1 := by rw [e3]
    have l3 : h3.lo = h2.lo := by rw [e3]
    rw [← e3]
    clear e3
    have s3 := s2.le le3
    have hl := gd.vq.filter fun r => !placeR id r
    simp(disch:=first|omega|(simp only[Wx];done)|(simp only[Wy];done)|(simp only[Wv];omega)|with_unfolding_all rfl)only[Wz,ptrTo,sliceTo, gb, eid]
    refine give_w bp bl F B n h3 _ s3.pool hFl (by omega) s3.ne hbn ?_
    intro h4 F' p4 hp4 fr4
    have n4 := fr4.nx
    have l4 := fr4.lo
    have H4 := HeadAt.pooled (e := ⟨e.t, e.r, h2.nx, 0, _, e.w, _⟩) ⟨by show h2.nx < h3.nx; omega, g3, hq2.le le3⟩ s3.pool fr4
    have g4 := H4.get
    simp(disch:=first|omega|(simp only[Wx];done)|(simp only[Wy];done)|(simp only[Wv];omega)|with_unfolding_all rfl)only[Wz,ptrTo,sliceTo, g4]
    have lf : (e.Q.filter fun r => !placeR id r).length ≤ e.Q.length := List.length_filter_le _ _
    refine settle_w (s3.pooled p4 fr4) (by omega) e.t e.r _ _ _ _ H4.qv.1 hl (by show (e.Q.filter fun r => !placeR id r).length ≤ 128; omega) ?_
    intro M' clock' v' h' s5 hset ho5 fr5
    have ho6 : OwnI h h' v' _ := Own.base ho5 (by have := le1.nx; omega)
    exact hk0 h' M' clock' F' v' e p n he hf eid hbn hp4 ⟨s5, (FrQ.of_le ((le1.trans le2).trans le3)).trans ((FrQ.of_P fr4).trans fr5), hl, hset⟩ ho6
end Go.Proofs

namespace Go.Proofs
open Go.Vai Go.Clashes
theorem find_filter (Q : List R5) (id : Int) : findQ (Q.filter fun r => !placeR id r) id = none := by
  unfold findQ
  rw [List.find?_eq_none]
  intro x hx
  rw [List.mem_filter] at hx
  have := hx.2
  cases h : placeR id x with
  | false => simp
  | true => rw [h] at this; cases this
theorem find_set {Q : List R5} {W : Int} (v : VQ Q W) {i : Nat} {p p' : R5} {id : Int} (hi : Q[i]? = some p) (hid : p.id = id) (hp : p'.id = p.id) : ∃ o, findQ (Q.set i p') id = some o := by
  cases h : findQ (Q.set i p') id with
  | some o => exact ⟨o, rfl⟩
  | none =>
    obtain ⟨hl, _⟩ := List.getElem?_eq_some_iff.1 hi
    exact absurd (hp.trans hid) (findQ_none h p' (List.mem_of_getElem? (i := i) (by rw [List.getElem?_set, if_pos rfl, if_pos hl])))
theorem abandonBk_w {h : Heap} {bb bm bp bl most : Nat} {M : List HE} {clock : Nat} {F : List Int} {B : List Bool} (s : BucketIs h bb bm bp bl most M clock F B) (hlo : h.lo ≤ h.nx) (ids : IdsIn M B) (id : Int) (κ : Value → Heap → Prop)
    (hk5 : ∀ h', (∀ e ∈ M, findQ e.Q id = none) → Le h h' → κ (.tuple ⟨[.slice none 0 0, .int .i64 5]⟩) h')
    (hk7 : ∀ h' e p, e ∈ M → findQ e.Q id = some p → ¬ 0 < p.s → Le h h' → κ (.tuple ⟨[.slice none 0 0, .int .i64 7]⟩) h')
    (hk0 : ∀ h' M' clock' F' v' e p (n : Nat), e ∈ M → findQ e.Q id = some p → 0 < p.s → p.m = 0 → id = (n : Int) → B[n]? = some true → F'.Perm (F ++ [(n : Int)]) → Moved h h' bb bm bp bl most M M' clock' F' (B.set n false) e (e.Q.filter fun r => !placeR id r) e.w → OwnI h h' v' (scanQ (cntW (e.Q.filter fun r => !placeR id r) + 1) (e.Q.filter fun r => !placeR id r)).2 → κ (.tuple ⟨[v', .int .i64 0]⟩) h')
    (hk1 : ∀ h' M' clock' v' e p i, e ∈ M → e.Q[i]? = some p → findQ e.Q id = some p → 0 < p.s → p.m ≠ 0 → Moved h h' bb bm bp bl most M M' clock' F B e (e.Q.set i (backR p)) e.w → OwnI h h' v' (scanQ (cntW (e.Q.set i (backR p)) + 1) (e.Q.set i (backR p))).2 → κ (.tuple ⟨[v', .int .i64 0]⟩) h') :
    CallW Tryz.prog 38 [.pointer (some ⟨bb, 0, none⟩), .int .i64 id] h κ := by
  refine callW_of mixed ?_
  rw [rs_38]
  refine of_w s hlo id _ ?_ ?_
  · intro h1 hno le1
    simp(disch:=first|omega|(simp only[Wx];done)|(simp only[Wy];done)|(simp only[Wv];omega)|with_unfolding_all rfl)only[Wz,ptrTo,sliceTo, bin_eqH0]
    refine none_w bb h1 _ ?_
    exact hk5 h1 hno le1
  · intro h1 e p he hf le1
    have n1 := le1.nx
    have l1 := le1.lo
    have s1 := s.le le1
    have H := s1.heads e he
    have hlt := H.lt
    have gd := s1.good e he
    have hsm := gd.small
    obtain ⟨qx, qc, eq, _⟩ := (show Sl enc5 h1 e.q e.Q from H.qv.1)
    have gh := H.get
    rw [eq] at gh
    obtain ⟨n, en, hbn⟩ := ids.find he (findQ_some hf).1
    have eid : id = (n : Int) := by rw [← en]; exact (findQ_some hf).2.symm
    have hFl : F.length ≤ 1000 := by have := lent_len s.pool.ok; have := s.pool.small; omega
    obtain ⟨i, hi, hpid⟩ := findQ_at gd.vq hf
    simp(disch:=first|omega|(simp only[Wx];done)|(simp only[Wy];done)|(simp only[Wv];omega)|with_unfolding_all rfl)only[Wz,ptrTo,sliceTo, bin_eqHk, rs_38_1, nil_at, gh]
    refine abandon_w e.t e.r _ e.w id e.Q h1 _ (by rw [← eq]; exact H.qv.1) (by omega) (by omega) gd.vq.pair hi hpid ?_ ?_ ?_
    · intro hs h2 le2
      have := le2.nx
      have := le2.lo
      simp(disch:=first|omega|(simp only[Wx];done)|(simp only[Wy];done)|(simp only[Wv];omega)|with_unfolding_all rfl)only[Wz,ptrTo,sliceTo, hdV]
      exact hk7 _ e p he hf hs ((le1.trans le2).new _)
    · intro hs hm0 q' h2 hq2 le2
      have n2 := le2.nx
      have l2 := le2.lo
      obtain ⟨qx2, qc2, rfl, _⟩ := (show Sl enc5 h2 q' _ from hq2.1)
      have s2 := s1.le le2
      have gb := s2.cellb
      have hlb := s2.ltb
      simp(disch:=first|omega|(simp only[Wx];done)|(simp only[Wy];done)|(simp only[Wv];omega)|with_unfolding_all rfl)only[Wz,ptrTo,sliceTo, hdV]
      obtain ⟨h3, e3⟩ : ∃ h3 : Heap, h3 = ⟨h2.nx + 1, h2.bl.upd h2.nx (headO e.t e.r (.slice qx2 (e.Q.filter fun r => !placeR id r).length qc2) e.w), h2.lo⟩ := ⟨_, rfl⟩
      have le3 : Le h2 h3 := by rw [e3]; exact (Le.refl h2).new _
      have g3 : h3.bl.get h2.nx = some (headO e.t e.r (.slice qx2 (e.Q.filter fun r => !placeR id r).length qc2) e.w) := by rw [e3]; exact T.get_upd_same _ _ _
      have n3 : h3.nx = h2.nx + 1 := by rw [e3]
      have l3 : h3.lo = h2.lo := by rw [e3]
      rw [← e3]
      clear e3
      have hlv := gd.vq.filter fun r => !placeR id r
      have lf : (e.Q.filter fun r => !placeR id r).length ≤ e.Q.length := List.length_filter_le _ _
      refine ⟨fun l h' => ∃ F', F'.Perm (F ++ [(n : Int)]) ∧ BucketIs h' bb bm bp bl most M clock F' (B.set n false) ∧ h'.bl.get h2.nx = some (headO e.t e.r (.slice qx2 (e.Q.filter fun r => !placeR id r).length qc2) e.w) ∧ QV h' (.slice qx2 (e.Q.filter fun r => !placeR id r).length qc2) (e.Q.filter fun r => !placeR id r) ∧ FrQ bm bp bl h h' ∧ h3.nx ≤ h'.nx, ?_, ?_⟩
      · simp(disch:=first|omega|(simp only[Wx];done)|(simp only[Wy];done)|(simp only[Wv];omega)|with_unfolding_all rfl)only[Wz,ptrTo,sliceTo, rs_38_0, g3]
        refine findQ_w e.t e.r _ e.w id _ h3 _ (hq2.1.le le3) (by omega) (by omega) ?_
        intro h4 le4
        have n4 := le4.nx
        have l4 := le4.lo
        rw [find_filter]
        have s4 := (s2.le le3).le le4
        have gb4 := s4.cellb
        have hlb4 := s4.ltb
        have s5 := s4.le ((Le.refl h4).new (blkR ⟨0, 0, 0, 0, 0⟩))
        simp(disch:=first|omega|(simp only[Wx];done)|(simp only[Wy];done)|(simp only[Wv];omega)|with_unfolding_all rfl)only[Wz,ptrTo,sliceTo, enc5, nil_at, gb4, eid]
        refine give_w bp bl F B n _ _ s5.pool hFl (by show h4.lo ≤ h4.nx + 1; omega) s5.ne hbn ?_
        intro h6 F' p6 hp6 fr6
        have n6 : h4.nx + 1 ≤ h6.nx := fr6.nx
        have H6 := HeadAt.pooled (e := ⟨e.t, e.r, h2.nx, 0, _, e.w, _⟩) (HeadAt.le ⟨by show h2.nx < h3.nx; omega, g3, hq2.le le3⟩ (le4.new _)) s5.pool fr6
        have G6 := H6.get
        have Q6 := H6.qv
        simp only [eid] at G6 Q6
        exact ⟨F', hp6, s5.pooled p6 fr6, G6, Q6, (FrQ.of_le (((le1.trans le2).trans le3).trans (le4.new _))).trans (FrQ.of_P fr6), by omega⟩
      · rintro l h6 ⟨F', hp6, s6, g6, hq6, fr6, n6⟩
        have l6 := fr6.lo
        simp(disch:=first|omega|(simp only[Wx];done)|(simp only[Wy];done)|(simp only[Wv];omega)|with_unfolding_all rfl)only[Wz,ptrTo,sliceTo, g6]
        refine settle_w s6 (by omega) e.t e.r _ _ _ _ hq6.1 hlv (by omega) ?_
        intro M' clock' v' h' s7 hset ho7 fr7
        exact hk0 h' M' clock' F' v' e p n he hf hs hm0 eid hbn hp6 ⟨s7, fr6.trans fr7, hlv, hset⟩ (Own.base ho7 (by omega))
    · intro hs hm0 q' h2 hq2 le2
      have n2 := le2.nx
      have l2 := le2.lo
      obtain ⟨qx2, qc2, rfl, _⟩ := (show Sl enc5 h2 q' _ from hq2.1)
      have s2 := s1.le le2
      simp(disch:=first|omega|(simp only[Wx];done)|(simp only[Wy];done)|(simp only[Wv];omega)|with_unfolding_all rfl)only[Wz,ptrTo,sliceTo, hdV]
      obtain ⟨h3, e3⟩ : ∃ h3 : Heap, h3 = ⟨h2.nx + 1, h2.bl.upd h2.nx (headO e.t e.r (.slice qx2 (e.Q.set i (backR p)).length qc2) e.w), h2.lo⟩ := ⟨_, rfl⟩
      have le3 : Le h2 h3 := by rw [e3]; exact (Le.refl h2).new _
      have g3 : h3.bl.get h2.nx = some (headO e.t e.r (.slice qx2 (e.Q.set i (backR p)).length qc2) e.w) := by rw [e3]; exact T.get_upd_same _ _ _
      have n3 : h3.nx = h2.nx + 1 := by rw [e3]
      have l3 : h3.lo = h2.lo := by rw [e3]
      rw [← e3]
      clear e3
      have hlv := gd.vq.back hi hm0
      obtain ⟨o, ho⟩ := find_set gd.vq hi hpid (p' := backR p) rfl
      refine ⟨fun l h' => Le h3 h', ?_, ?_⟩
      · simp(disch:=first|omega|(simp only[Wx];done)|(simp only[Wy];done)|(simp only[Wv];omega)|with_unfolding_all rfl)only[Wz,ptrTo,sliceTo, rs_38_0, g3]
        refine findQ_w e.t e.r _ e.w id _ h3 _ (hq2.1.le le3) (by rw [List.length_set]; omega) (by omega) ?_
        intro h4 le4
        have n4 := le4.nx
        have l4 := le4.lo
        rw [ho]
        simp(disch:=first|omega|(simp only[Wx];done)|(simp only[Wy];done)|(simp only[Wv];omega)|with_unfolding_all rfl)only[Wz,ptrTo,sliceTo, enc5]
        exact le4.new _
      · intro l h6 le6
        have n6 := le6.nx
        have l6 := le6.lo
        have g6 := (le6.get _ (by omega)).trans g3
        simp(disch:=first|omega|(simp only[Wx];done)|(simp only[Wy];done)|(simp only[Wv];omega)|with_unfolding_all rfl)only[Wz,ptrTo,sliceTo, g6]
        have le36 := le3.trans le6
        refine settle_w (s2.le le36) (by omega) e.t e.r _ _ _ _ (hq2.1.le le36) hlv (by rw [List.length_set]; omega) ?_
        intro M' clock' v' h' s7 hset ho7 fr7
        exact hk1 h' M' clock' v' e p i he hi hf hs hm0 ⟨s7, (FrQ.of_le ((le1.trans le2).trans le36)).trans fr7, hlv, hset⟩ (Own.base ho7 (by omega))
end Go.Proofs

namespace Go.Proofs
open Go.Vai Go.Clashes
theorem handBk_w {h : Heap} {bb bm bp bl most : Nat} {M : List HE} {clock : Nat} {F : List Int} {B : List Bool} (s : BucketIs h bb bm bp bl most M clock F B) (hlo : h.lo ≤ h.nx) (id x : Int) (κ : Value → Heap → Prop)
    (hk5 : ∀ h', (∀ e ∈ M, findQ e.Q id = none) → Le h h' → κ (.int .i64 5) h')
    (hk4 : ∀ h' e p, e ∈ M → findQ e.Q id = some p → (∃ o ∈ e.Q, o.id ≠ id ∧ o.x = x) → Le h h' → κ (.int .i64 4) h')
    (hk7 : ∀ h' e p, e ∈ M → findQ e.Q id = some p → (∀ o ∈ e.Q, o.id ≠ id → o.x ≠ x) → 0 < p.s → Le h h' → κ (.int .i64 7) h')
    (hk0 : ∀ h' M' clock' e p i, e ∈ M → e.Q[i]? = some p → findQ e.Q id = some p → (∀ o ∈ e.Q, o.id ≠ id → o.x ≠ x) → ¬ 0 < p.s → Moved h h' bb bm bp bl most M M' clock' F B e (e.Q.set i (handR p x)) e.w → κ (.int .i64 0) h') :
    CallW Tryz.prog 40 [.pointer (some ⟨bb, 0, none⟩), .int .i64 id, .int .i64 x] h κ := by
  refine callW_of mixed ?_
  rw [rs_40]
  refine of_w s hlo id _ ?_ ?_
  · intro h1 hno le1
    simp(disch:=first|omega|(simp only[Wx];done)|(simp only[Wy];done)|(simp only[Wv];omega)|with_unfolding_all rfl)only[Wz,ptrTo,sliceTo, bin_eqH0]
    refine none_w bb h1 _ ?_
    exact hk5 h1 hno le1
  · intro h1 e p he hf le1
    have n1 := le1.nx
    have l1 := le1.lo
    have s1 := s.le le1
    have H := s1.heads e he
    have hlt := H.lt
    have gd := s1.good e he
    have hsm := gd.small
    obtain ⟨qx, qc, eq, _⟩ := (show Sl enc5 h1 e.q e.Q from H.qv.1)
    have gh := H.get
    rw [eq] at gh
    obtain ⟨i, hi, hpid⟩ := findQ_at gd.vq hf
    simp(disch:=first|omega|(simp only[Wx];done)|(simp only[Wy];done)|(simp only[Wv];omega)|with_unfolding_all rfl)only[Wz,ptrTo,sliceTo, bin_eqHk, rs_40_0, nil_at, gh]
    refine hand_w e.t e.r _ e.w id x e.Q h1 _ (by rw [← eq]; exact H.qv.1) (by omega) (by omega) gd.vq.pair hi hpid ?_ ?_ ?_
    · intro hx h2 le2
      have := le2.nx
      have := le2.lo
      simp(disch:=first|omega|(simp only[Wx];done)|(simp only[Wy];done)|(simp only[Wv];omega)|with_unfolding_all rfl)only[Wz,ptrTo,sliceTo, hdV]
      refine ⟨fun l h' => Le h h', ?_, ?_⟩
      · exact (le1.trans le2).new _
      · intro l h' le'
        exact hk4 _ e p he hf hx le'
    · intro hx hs h2 le2
      have := le2.nx
      have := le2.lo
      simp(disch:=first|omega|(simp only[Wx];done)|(simp only[Wy];done)|(simp only[Wv];omega)|with_unfolding_all rfl)only[Wz,ptrTo,sliceTo, hdV]
      refine ⟨fun l h' => Le h h', ?_, ?_⟩
      · exact (le1.trans le2).new _
      · intro l h' le'
        exact hk7 _ e p he hf hx hs le'
    · intro hx hs q' h2 hq2 le2
      have n2 := le2.nx
      have l2 := le2.lo
      obtain ⟨qx2, qc2, rfl, _⟩ := (show Sl enc5 h2 q' _ from hq2.1)
      have s2 := s1.le le2
      simp(disch:=first|omega|(simp only[Wx];done)|(simp only[Wy];done)|(simp only[Wv];omega)|with_unfolding_all rfl)only[Wz,ptrTo,sliceTo, hdV]
      have le3 : Le h2 ⟨h2.nx + 1, h2.bl.upd h2.nx (headO e.t e.r (.slice qx2 (e.Q.set i (handR p x)).length qc2) e.w), h2.lo⟩ := (Le.refl h2).new _
      have hlv := gd.vq.hand (x := x) hi (by rw [hpid]; exact hx)
      refine ⟨fun l h' => ∃ M' clock', Moved h h' bb bm bp bl most M M' clock' F B e (e.Q.set i (handR p x)) e.w, ?_, ?_⟩
      · refine settle_w (s2.le le3) (by show h2.lo ≤ h2.nx + 1; omega) e.t e.r _ _ _ _ (hq2.1.le le3) hlv (by rw [List.length_set]; omega) ?_
        intro M' clock' v' h' s7 hset ho7 fr7
        exact ⟨M', clock', s7, (FrQ.of_le ((le1.trans le2).trans le3)).trans fr7, hlv, hset⟩
      · rintro l h' ⟨M', clock', hm⟩
        exact hk0 h' M' clock' e p i he hi hf hx hs hm
theorem veqR (a b c d e : Int) : veq 8 (.agg ⟨[.int .i64 a, .int .i64 b, .int .i64 c, .int .i64 d, .int .i64 e]⟩) (.agg ⟨[.int .i64 a, .int .i64 b, .int .i64 c, .int .i64 d, .int .i64 e]⟩) = true := by unfold veq; exact veqL_ints 6 [a, b, c, d, e]
theorem getBk_w {h : Heap} {bb bm bp bl most : Nat} {M : List HE} {clock : Nat} {F : List Int} {B : List Bool} (s : BucketIs h bb bm bp bl most M clock F B) (hlo : h.lo ≤ h.nx) (id : Int) (κ : Value → Heap → Prop)
    (hk0 : ∀ h', (∀ e ∈ M, findQ e.Q id = none) → Le h h' → κ (.tuple ⟨[nmV 0 0, aggR ⟨0, 0, 0, 0, 0⟩, .bool false]⟩) h')
    (hk1 : ∀ h' e p, e ∈ M → findQ e.Q id = some p → Le h h' → κ (.tuple ⟨[nmV e.t e.r, aggR p, .bool true]⟩) h') :
    CallW Tryz.prog 19 [.pointer (some ⟨bb, 0, none⟩), .int .i64 id] h κ := by
  refine callW_of mixed ?_
  rw [rs_19]
  simp(disch:=first|omega|(simp only[Wx];done)|(simp only[Wy];done)|(simp only[Wv];omega)|with_unfolding_all rfl)only[Wz,ptrTo,sliceTo]
  obtain ⟨hA, e_hA⟩ : ∃ hA : Heap, hA = ⟨h.nx + 1 + 1, ((h.bl.upd (h.nx) (cellsO [.int .i64 0, .int .i64 0] 38 false)).upd (h.nx + 1) (blkR ⟨0, 0, 0, 0, 0⟩)), h.lo⟩ := ⟨_, rfl⟩
  have le_hA : Le h hA := by subst e_hA; exact (((Le.refl h).new _).new _)
  have g1 : hA.bl.get (h.nx) = some (cellsO [.int .i64 0, .int .i64 0] 38 false) := by subst e_hA; exact (T.get_updne _ _ (by omega)).trans (T.get_upd_same _ _ _)
  have g3 : hA.bl.get (h.nx + 1) = some (blkR ⟨0, 0, 0, 0, 0⟩) := by subst e_hA; exact T.get_upd_same _ _ _
  have n_hA : hA.nx = h.nx + 1 + 1 := by subst e_hA; rfl
  have l_hA : hA.lo = h.lo := by subst e_hA; rfl
  rw [← e_hA]
  clear e_hA
  refine of_w (s.le le_hA) (by omega) id _ ?_ ?_
  · intro h1 hno le1
    have n1 := le1.nx
    have l1 := le1.lo
    have g1 := (le1.get _ (by omega)).trans g1
    have g3 := (le1.get _ (by omega)).trans g3
    simp(disch:=first|omega|(simp only[Wx];done)|(simp only[Wy];done)|(simp only[Wv];omega)|with_unfolding_all rfl)only[Wz,ptrTo,sliceTo, bin_eqH0, g1, g3, enc5]
    exact hk0 _ hno ((((le_hA.trans le1).set (by omega) _)).set (by omega) _)
  · intro h1 e p he hf le1
    have n1 := le1.nx
    have l1 := le1.lo
    have g1 := (le1.get _ (by omega)).trans g1
    have g3 := (le1.get _ (by omega)).trans g3
    have s1 := (s.le le_hA).le le1
    have H := s1.heads e he
    have hlt := H.lt
    have gd := s1.good e he
    have hsm := gd.small
    obtain ⟨qx, qc, eq, _⟩ := (show Sl enc5 h1 e.q e.Q from H.qv.1)
    have gh := H.get
    rw [eq] at gh
    simp(disch:=first|omega|(simp only[Wx];done)|(simp only[Wy];done)|(simp only[Wv];omega)|with_unfolding_all rfl)only[Wz,ptrTo,sliceTo, bin_eqHk, rs_19_0, nil_at, gh]
    refine findQ_w e.t e.r _ e.w id _ h1 _ (by rw [← eq]; exact H.qv.1) (by omega) (by omega) ?_
    intro h2 le2
    have n2 := le2.nx
    have l2 := le2.lo
    have g1 := (le2.get _ (by omega)).trans g1
    have g3 := (le2.get _ (by omega)).trans g3
    have gh2 := (le2.get _ hlt).trans gh
    rw [hf]
    simp(disch:=first|omega|(simp only[Wx];done)|(simp only[Wy];done)|(simp only[Wv];omega)|with_unfolding_all rfl)only[Wz,ptrTo,sliceTo, enc5, g1, g3, gh2, nil_at, veqR]
    exact hk1 _ e p he hf (((((le_hA.trans le1).trans le2).new _).set (by omega) _).set (by omega) _)
end Go.Proofs
