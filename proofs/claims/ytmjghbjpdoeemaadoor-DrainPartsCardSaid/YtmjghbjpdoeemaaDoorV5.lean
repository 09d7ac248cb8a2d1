/-
  PROVED HERE: a part of the proof, by a calculus of weakest conditions over an abstract heap (VaiA, VaiF, VaiY, Srt).
-/
import Derived.Test.YtmjghbjpdoeemaaDoorV4
set_option linter.unusedVariables false
set_option linter.unusedSimpArgs false
namespace Go.Vai
open Go
section
variable {α : Type} {s : Nat} {enc : α → List Value}
set_option maxRecDepth 20000 in
theorem append_in {a h : Heap} {e : TypeId} {z : List Value} {v x : Value} {L M : List α} (he : ∀ a : α, (enc a).length = s) (hone : ∀ a : α, (enc a).all oneC = true) (hs0 : 0 < s) (hs1 : s ≤ 100) (ho : Own enc a e h v L) (hx : Sl enc h x M)
    (hle : Le a h) (hb : L.length + M.length ≤ 1000000) (hal : h.lo ≤ h.nx) (κ : Value → Heap → Prop)
    (hk : ∀ v' h', Own enc a e h' v' (L ++ M) → Le a h' → h'.nx ≤ h.nx + 1 → h.nx ≤ h'.nx → h'.lo = h.lo → (∀ b, b < h.nx → h.bl.get b ≠ some (cellsO (L.flatMap enc) e true) → h'.bl.get b = h.bl.get b) → κ v' h') : appendB False e s z false v x h κ := by
  by_cases hM : M = []
  · subst hM
    rw [append_nil hx (by rcases ho with ⟨rfl, rfl | ⟨b, o, rfl⟩⟩ | ⟨b, rfl, _⟩ <;> exact ⟨_, _, _, rfl⟩)]
    exact hk v h (by simpa using ho) hle (Nat.le_succ _) (Nat.le_refl _) rfl (fun _ _ _ => rfl)
  · obtain ⟨m, hm⟩ : ∃ m, M.length = m + 1 := ⟨M.length - 1, by have := List.length_pos_iff.2 hM; omega⟩
    have hfl := flat_length (enc := enc) he
    have hfirst := hx.first (β := Prop) (fl := False) he
    obtain ⟨y, cap, rfl, h2⟩ := hx
    have hml : ∀ K : List α, K.length ≤ 1000000 → (K.flatMap enc).length ≤ 1000000000000 := fun K hK => by
      rw [hfl]
      have := Nat.mul_le_mul hK hs1
      omega
    have fresh : ∀ (hh : Heap) (ws : List Value), ws = (L ++ M).flatMap enc → Le a hh → hh.nx = h.nx → hh.lo = h.lo → (∀ b, b < h.nx → h.bl.get b ≠ some (cellsO (L.flatMap enc) e true) → hh.bl.get b = h.bl.get b) → newCells False ws e true hh fun b h' => κ (.slice (some ⟨b, 0, none⟩) (L.length + M.length) openCap) h' := by
      intro hh ws hw hah hnx hlo hgt
      subst hw
      unfold newCells
      rw [cellsK_eq _ _ _ _ (hml _ (by simp; omega)), newBlock_eq]
      refine hk _ _ (.inr ⟨hh.nx, by simp, hah.nx, Nat.lt_succ_self _, by show hh.lo ≤ _; omega, T.get_upd_same _ _ _⟩) (hah.new _) (by show hh.nx + 1 ≤ _; omega) (by show h.nx ≤ hh.nx + 1; omega) hlo (fun b hb hn => (T.get_updne _ _ (by omega)).trans (hgt b hb hn))
    rcases ho with ⟨rfl, hv⟩ | ⟨b, rfl, h3, h4, h5, h6⟩
    · have hF := fresh h (M.flatMap enc) (by simp) hle rfl rfl (fun _ _ _ => rfl)
      simp only [List.length_nil, Nat.zero_add] at hF
      rcases hv with rfl | ⟨b, o, rfl⟩
      · unfold appendB comeB
        simp only
        rw [hfirst]
        simp only [hm, fnK_eq]
        rw [show Nat.ble (Nat.add 0 (m + 1)) 1000000000 = true from Nat.ble_eq_true_of_le (by show 0 + (m + 1) ≤ _; omega)]
        rw [hm] at hF
        have e1 : Nat.add 0 (m + 1) = m + 1 := by show 0 + (m + 1) = _; omega
        rw [e1]
        exact hF
      · unfold appendB comeB
        simp only
        rw [hfirst]
        simp only [hm, fnK_eq]
        have e1 : Nat.add 0 (m + 1) = m + 1 := by show 0 + (m + 1) = _; omega
        rw [e1, show Nat.ble (m + 1) 1000000000 = true from Nat.ble_eq_true_of_le (by omega)]
        rw [hm] at hF
        show firstB False h s 0 _ _
        rw [firstB_zero _ _ _ _ _ (by simp)]
        exact hF
    · unfold appendB comeB
      simp only
      rw [hfirst]
      simp only [hm, fnK_eq]
      have e1 : Nat.add L.length (m + 1) = L.length + (m + 1) := rfl
      rw [e1, show Nat.ble (L.length + (m + 1)) 1000000000 = true from Nat.ble_eq_true_of_le (by omega)]
      have e2 : Nat.beq openCap anyCap = false := by decide
      have e3 : Nat.beq openCap openCap = true := Nat.beq_refl _
      simp only [e2, e3, h6]
      have e4 : Nat.ble (Nat.add 0 (Nat.mul (L.length + (m + 1)) s)) (L.flatMap enc).length = false := by
        rw [hfl]
        cases hbb : Nat.ble (Nat.add 0 (Nat.mul (L.length + (m + 1)) s)) (L.length * s) with
        | false => rfl
        | true =>
          have h7 : 0 + (L.length + (m + 1)) * s ≤ L.length * s := Nat.le_of_ble_eq_true hbb
          rw [Nat.add_mul, Nat.succ_mul] at h7
          omega
      have e5 : (M.flatMap enc).all oneC = true := by
        rw [List.all_flatMap]; simp only [List.all_eq_true]; intro x _; exact List.all_eq_true.1 (hone x)
      simp only [cellsO, Nat.beq_refl, e4, e5, Bool.and_self]
      have hh : Has (h.bl.get b) 0 (L.flatMap enc) := by rw [h6]; exact Has.all
      rw [firstB_has hh s L.length _ _ _ (hfl L).symm, setBlock_eq _ _ _ _ h5]
      have hF := fresh ⟨h.nx, h.bl.upd b (.dead (L.flatMap enc).length e), h.lo⟩ (L.flatMap enc ++ M.flatMap enc) (by simp) (hle.set h3 _) rfl rfl (fun b' _ hn => T.get_updne _ _ (fun e => hn (by rw [← e]; exact h6)))
      rw [hm] at hF
      exact hF
end
theorem cells_op {vs ws : List Value} {e e' : TypeId} : (some (cellsO vs e false) : Option AObj) ≠ some (cellsO ws e' true) := by
  intro h
  unfold cellsO at h
  simp only [Option.some.injEq, AObj.cells.injEq] at h
  exact absurd h.2.2.2 (by decide)
theorem cells_ty {vs ws : List Value} {e e' : TypeId} {p p' : Bool} (hn : e ≠ e') : (some (cellsO vs e p) : Option AObj) ≠ some (cellsO ws e' p') := by
  intro h
  unfold cellsO at h
  simp only [Option.some.injEq, AObj.cells.injEq] at h
  exact hn h.2.2.1
end Go.Vai

namespace Go.Vai
open Go
section
variable {α : Type} {s : Nat} {enc : α → List Value}
theorem over_mid (A E C ws : List Value) (j : Nat) (h : j + ws.length ≤ E.length) : over (A ++ E ++ C) (A.length + j) ws = A ++ over E j ws ++ C := by
  unfold over
  have e1 : (A ++ E ++ C).take (A.length + j) = A ++ E.take j := by
    rw [List.append_assoc, List.take_append, List.take_of_length_le (by omega), show A.length + j - A.length = j by omega, List.take_append_of_le_length (by omega)]
  have e2 : (A ++ E ++ C).drop (A.length + j + ws.length) = E.drop (j + ws.length) ++ C := by
    rw [List.append_assoc, List.drop_append, List.drop_of_length_le (by omega), List.nil_append, show A.length + j + ws.length - A.length = j + ws.length by omega, List.drop_append_of_le_length h]
  rw [e1, e2]
  simp only [List.append_assoc]
theorem over_field (he : ∀ a : α, (enc a).length = s) {K : List α} {i j : Nat} {p p' : α} {ws : List Value} (hp : K[i]? = some p) (hj : j + ws.length ≤ s) (hw : over (enc p) j ws = enc p') : over (K.flatMap enc) (i * s + j) ws = (K.set i p').flatMap enc := by
  obtain ⟨hi, rfl⟩ := List.getElem?_eq_some_iff.1 hp
  have e1 : K.flatMap enc = (K.take i).flatMap enc ++ enc K[i] ++ (K.drop (i + 1)).flatMap enc := by
    have e0 : K = K.take i ++ (K[i] :: K.drop (i + 1)) := by rw [List.getElem_cons_drop, List.take_append_drop]
    have := congrArg (List.flatMap enc) e0
    rw [List.flatMap_append, List.flatMap_cons] at this
    rw [List.append_assoc]; exact this
  have e2 : (K.set i p').flatMap enc = (K.take i).flatMap enc ++ enc p' ++ (K.drop (i + 1)).flatMap enc := by
    rw [List.set_eq_take_append_cons_drop, if_pos hi]
    simp [List.flatMap_append]
  have hl : ((K.take i).flatMap enc).length = i * s := by rw [flat_length he, List.length_take, Nat.min_eq_left (by omega)]
  rw [e1, e2, ← hl, over_mid _ _ _ _ _ (by rw [he]; exact hj), hw]
theorem flat_read (he : ∀ a : α, (enc a).length = s) {K : List α} {i j : Nat} {p : α} (hp : K[i]? = some p) (hj : j < s) : (K.flatMap enc)[i * s + j]? = (enc p)[j]? := by
  obtain ⟨hi, rfl⟩ := List.getElem?_eq_some_iff.1 hp
  have := flat_at he K i hi
  have e : ((((K.flatMap enc).drop (i * s)).take s)[j]?) = (enc K[i])[j]? := by rw [this]
  rw [List.getElem?_take_of_lt hj, List.getElem?_drop] at e
  exact e
end
end Go.Vai

namespace Go.Vai
open Go
def prK (P : Program) (skip : FuncId → Bool) : Prims Prop := ⟨fun f => match skip f with | true => none | false => some (CallW P f), And⟩
theorem prK_ok (P : Program) (skip : FuncId → Bool) : PrimsOk (fun p : Prop => p) (prK P skip) P := by
  refine ⟨fun x y h => h, fun f g hg args args' h φ w κ ha hr hgood => ?_⟩
  unfold prK at hg
  simp only at hg
  split at hg
  · cases hg
  · cases hg
    exact hgood φ w args' ha hr
/-- a call, run with that much fuel -/
theorem callW_run {P : Program} (hm : P.follows .mixedOrders = true) {skip : FuncId → Bool} {f : FuncId} {args : List Value} {h : Heap} {κ : Value → Heap → Prop} (n : Nat)
    (hg : callF False (prK P skip) P (run False (prK P skip) P n) f args h κ) : CallW P f args h κ := by
  intro φ w args' ha hr
  exact callF_sound (good := fun p : Prop => p) (fl := False) (fun h => h) (prK_ok P skip) (run_sound (fun h => h) (prK_ok P skip) (draw_sound (fun h => h) (prK_ok P skip) hm) n).1 ha hr hg
def codeAt (P : Program) (f : FuncId) : Code := match callOk P f with | .mk c _ _ => c | .none => .skip
def seqL : Code → Code | .seq a _ => a | c => c
def seqR : Code → Code | .seq _ b => b | c => c
def inC : Code → Code | .block _ c => c | .loop c => c | .scope c => c | c => c
def rfA : Code → Code | .rangeFunc _ _ a _ => a | c => c
def rfB : Code → Code | .rangeFunc _ _ _ b => b | c => c
theorem run_succ {P : Program} (pr : Prims Prop) (n : Nat) : run False pr P (n + 1) = body False pr P (run False pr P n) := rfl
end Go.Vai

namespace Go.Vai
open Go
structure LeS (bl : Nat) (h h' : Heap) : Prop where
  nx : h.nx ≤ h'.nx
  lo : h'.lo = h.lo
  get : ∀ b, b < h.nx → b ≠ bl → h'.bl.get b = h.bl.get b
theorem LeS.of_le {bl : Nat} {h h' : Heap} (l : Le h h') : LeS bl h h' := ⟨l.nx, l.lo, fun b hb _ => l.get b hb⟩
theorem LeS.set {bl : Nat} {h h' : Heap} (l : Le h h') (o : AObj) : LeS bl h ⟨h'.nx, h'.bl.upd bl o, h'.lo⟩ :=
  ⟨l.nx, l.lo, fun b hb hn => (T.get_updne _ _ (Ne.symm hn)).trans (l.get b hb)⟩
theorem LeS.trans {b : Nat} {h1 h2 h3 : Heap} (l : LeS b h1 h2) (k : LeS b h2 h3) : LeS b h1 h3 :=
  ⟨Nat.le_trans l.nx k.nx, k.lo.trans l.lo, fun c hc hn => (k.get c (Nat.lt_of_lt_of_le hc l.nx) hn).trans (l.get c hc hn)⟩
section
variable {α : Type} {s : Nat} {enc : α → List Value}
theorem rdE (he : ∀ a : α, (enc a).length = s) {h : Heap} {b : Nat} {D : List α} {e : TypeId} {op : Bool} (hg : h.bl.get b = some (cellsO (D.flatMap enc) e op)) {i : Nat} {p : α} (hp : D[i]? = some p) (β : Type) (fl : β) (κ : List Value → β) :
    ldA fl (h.bl.get b) (i * s) s κ = κ (enc p) := by
  obtain ⟨hi, rfl⟩ := List.getElem?_eq_some_iff.1 hp
  rw [hg]
  have h1 : Has (some (cellsO (D.flatMap enc) e op)) 0 (D.flatMap enc) := Has.all
  have hl := flat_length (enc := enc) he D
  have h3 : i * s + s ≤ D.length * s := by rw [← Nat.succ_mul]; exact Nat.mul_le_mul_right s hi
  have h2 := h1.sub (i * s) s (by omega)
  rw [Nat.zero_add, flat_at he D i hi] at h2
  exact ldA_has h2 s κ (he _).symm
theorem over_set (he : ∀ a : α, (enc a).length = s) {D : List α} {i : Nat} {p p' : α} (hp : D[i]? = some p) : over (D.flatMap enc) (i * s) (enc p') = (D.set i p').flatMap enc := by
  have h1 := he p
  have h2 := he p'
  have := over_field (j := 0) (ws := enc p') he hp (by omega) (show over (enc p) 0 (enc p') = enc p' by unfold over; simp [h1, h2])
  simpa using this
variable (lt : α → α → Prop)
def InvS (L D : List α) (i j : Nat) : Prop := ∃ A x B C, D = A ++ x :: (B ++ C) ∧ A.length = j ∧ A.length + B.length = i ∧ (A ++ B).Pairwise lt ∧ (∀ q ∈ B, lt x q) ∧ D.Perm L
variable {lt}
theorem InvS.start {L D : List α} {i : Nat} (hi : i < D.length) (hs : (D.take i).Pairwise lt) (hp : D.Perm L) : InvS lt L D i i := by
  refine ⟨D.take i, D[i], [], D.drop (i + 1), ?_, by simp; omega, by simp; omega, by simpa using hs, by simp, hp⟩
  rw [List.nil_append, ← List.drop_eq_getElem_cons hi, List.take_append_drop]
theorem InvS.step {L D : List α} {i j : Nat} {x y : α} (h : InvS lt L D i (j + 1)) (hx : D[j + 1]? = some x) (hy : D[j]? = some y) (hl : lt x y) : InvS lt L ((D.set (j + 1) y).set j x) i j := by
  obtain ⟨A, x', B, C, rfl, h1, h2, h3, h4, h5⟩ := h
  rcases List.eq_nil_or_concat A with rfl | ⟨A', y', rfl⟩
  · simp at h1
  · have hj : A'.length = j := by simpa using h1
    subst hj
    have e : A'.concat y' ++ x' :: (B ++ C) = A' ++ y' :: x' :: (B ++ C) := by simp
    rw [e] at hx hy h5 ⊢
    rw [List.getElem?_append_right (by omega)] at hx hy
    simp at hx hy
    subst hx; subst hy
    have e2 : ((A' ++ y' :: x' :: (B ++ C)).set (A'.length + 1) y').set A'.length x' = A' ++ x' :: ((y' :: B) ++ C) := by
      rw [List.set_append_right _ _ (by omega), List.set_append_right _ _ (by omega)]
      simp
    rw [e2]
    refine ⟨A', x', y' :: B, C, rfl, rfl, by simp at h2 ⊢; omega, by simpa using h3, ?_, ?_⟩
    · intro q hq
      rcases List.mem_cons.1 hq with rfl | hq
      · exact hl
      · exact h4 q hq
    · refine List.Perm.trans ?_ h5
      exact List.Perm.append_left A' (List.Perm.swap _ _ _)
end
end Go.Vai
