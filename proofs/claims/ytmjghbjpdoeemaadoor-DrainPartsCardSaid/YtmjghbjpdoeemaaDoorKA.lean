/-
  PROVED HERE: a part of the proof, by a calculus of weakest conditions over an abstract heap (K0, K1, K2, K15, K16, K30, K31, D0, K37).
-/
import Derived.Test.YtmjghbjpdoeemaaDoorV4
import Derived.Test.YtmjghbjpdoeemaaDoorRZ
import Derived.Test.YtmjghbjpdoeemaaDoorV5
import Derived.Test.YtmjghbjpdoeemaaDoorV6
set_option linter.unusedVariables false
set_option linter.unusedSimpArgs false
set_option maxRecDepth 100000
namespace Go.Proofs
open Go.Vai Go.Clashes
theorem mixed : Tryd.prog.follows .mixedOrders = true := by kernel_rfl
def nmV (t r : Int) : Value := .agg ⟨[.int .i64 t, .int .i64 r]⟩
end Go.Proofs

namespace Go.Proofs
open Go.Vai Go.Clashes
abbrev OwnR (a h : Heap) (v : Value) (L : List R5) : Prop := Own enc5 a 38 h v L
theorem ld5 {h : Heap} {v : Value} {L : List R5} (hs : Sl enc5 h v L) (i : Nat) {p : R5} (hp : L[i]? = some p) :
    ∃ b o, b < h.nx ∧ (∀ (β : Type) (fl : β) (h' : Heap) (κ : Value → Heap → β), indexAddrS fl 5 v (.int .i64 (i : Int)) h' κ = κ (.pointer (some ⟨b, o, none⟩)) h') ∧
      ((∀ (β : Type) (fl : β) (κ : List Value → β), ldA fl (h.bl.get b) o 5 κ = κ (enc5 p)) ∧
      (∀ (β : Type) (fl : β) (κ : Value → β), ldO fl (h.bl.get b) o κ = κ (.int .i64 p.id)) ∧
      (∀ (β : Type) (fl : β) (κ : Value → β), ldO fl (h.bl.get b) (o + 1) κ = κ (.int .i64 p.x)) ∧
      (∀ (β : Type) (fl : β) (κ : Value → β), ldO fl (h.bl.get b) (o + 2) κ = κ (.int .i64 p.m)) ∧
      (∀ (β : Type) (fl : β) (κ : Value → β), ldO fl (h.bl.get b) (o + 3) κ = κ (.int .i64 p.w)) ∧
      (∀ (β : Type) (fl : β) (κ : Value → β), ldO fl (h.bl.get b) (o + 4) κ = κ (.int .i64 p.s))) := by
  obtain ⟨b, o, h1, h2, h3, hh⟩ := hs.ld enc5_len i hp
  have h5 : (enc5 p).length = 5 := rfl
  exact ⟨b, o, h1, h2, h3, fun β fl κ => ldO_has (fl := fl) hh 0 κ (by omega), fun β fl κ => ldO_has (fl := fl) hh 1 κ (by omega), fun β fl κ => ldO_has (fl := fl) hh 2 κ (by omega), fun β fl κ => ldO_has (fl := fl) hh 3 κ (by omega), fun β fl κ => ldO_has (fl := fl) hh 4 κ (by omega)⟩
end Go.Proofs

namespace Go.Proofs
open Go.Vai Go.Clashes
def hdV (t r : Int) (q : Value) (w : Int) : Value := .agg ⟨[.int .i64 t, .int .i64 r, q, .int .i64 w]⟩
end Go.Proofs

namespace Go.Proofs
open Go.Vai Go.Clashes
structure HE where
  t : Int
  r : Int
  hb : Nat
  born : Nat
  q : Value
  w : Int
  Q : List R5
def isN (t r : Int) (e : HE) : Bool := decide (t = e.t ∧ r = e.r)
theorem isN_f {t r : Int} {x : HE} : (!isN t r x) = true ↔ ¬ (t = x.t ∧ r = x.r) := by unfold isN; rw [Bool.not_eq_true', decide_eq_false_iff_not]
structure MapOk (M : List HE) (clock : Nat) : Prop where
  nm : M.Pairwise fun a b => ¬ (a.t = b.t ∧ a.r = b.r)
  bn : M.Pairwise fun a b => a.born ≠ b.born
  lt : ∀ e ∈ M, e.born < clock
theorem eqNk (h : Heap) (a b c d : Int) : eqB Tryd.prog h 100 30 (.agg ⟨[.int .i64 a, .int .i64 b]⟩) (.agg ⟨[.int .i64 c, .int .i64 d]⟩) =
    (match (some (ieqB a c)) with | some true => (match some (ieqB b d) with | some true => some true | r => r) | r => r) := by kernel_rfl
theorem eqN (h : Heap) (a b c d : Int) : eqB Tryd.prog h 100 30 (nmV a b) (nmV c d) = some (decide (a = c ∧ b = d)) := by
  unfold nmV
  rw [eqNk, ieqB_eq, ieqB_eq]
  by_cases h1 : a = c <;> by_cases h2 : b = d <;> simp [h1, h2]
theorem snocK_eq (x : MapEntry) : ∀ (l : List MapEntry) (κ : List MapEntry → Prop), snocK x l κ = κ (l ++ [x]) := by
  intro l
  induction l with
  | nil => intro κ; rfl
  | cons a l ih => intro κ; exact ih _
theorem setAt_eq (f : MapEntry → MapEntry) : ∀ (l : List MapEntry) (j : Nat) (e : MapEntry) (κ : List MapEntry → Prop), l[j]? = some e → setAt f j l κ = κ (l.set j (f e)) := by
  intro l
  induction l with
  | nil => intro j e κ h; simp at h
  | cons a l ih =>
    intro j e κ h
    cases j with
    | zero => rw [List.getElem?_cons_zero] at h; cases h; rfl
    | succ j => rw [List.getElem?_cons_succ] at h; exact ih j e _ h
theorem delAt_eq : ∀ (l : List MapEntry) (j : Nat) (κ : List MapEntry → Prop), delAt j l κ = κ (l.eraseIdx j) := by
  intro l
  induction l with
  | nil => intro j κ; cases j <;> rfl
  | cons a l ih =>
    intro j κ
    cases j with
    | zero => rfl
    | succ j => exact ih j _
theorem pw_perm {α : Type} {R : α → α → Prop} (hs : ∀ {a b}, R a b → R b a) {L L' : List α} (hp : L.Perm L') (h : L.Pairwise R) : L'.Pairwise R := (hp.pairwise_iff hs).1 h
theorem MapOk.put {M M' : List HE} {clock clock' : Nat} (o : MapOk M clock) (hc : clock ≤ clock') {e : HE} (hp : M'.Perm (M.filter (fun x => !isN e.t e.r x) ++ [e])) (hb : ∀ x ∈ M, ¬ (e.t = x.t ∧ e.r = x.r) → x.born ≠ e.born) (hlt : e.born < clock') : MapOk M' clock' := by
  have hm : ∀ x ∈ M.filter (fun x => !isN e.t e.r x), x ∈ M ∧ ¬ (e.t = x.t ∧ e.r = x.r) := fun x hx => by
    rw [List.mem_filter] at hx
    exact ⟨hx.1, isN_f.1 hx.2⟩
  refine ⟨pw_perm (fun h => fun ⟨a, b⟩ => h ⟨a.symm, b.symm⟩) hp.symm (pw_snoc (o.nm.filter _) fun x hx => fun ⟨a, b⟩ => (hm x hx).2 ⟨a.symm, b.symm⟩), pw_perm (fun h => h.symm) hp.symm (pw_snoc (o.bn.filter _) fun x hx => hb x (hm x hx).1 (hm x hx).2), fun x hx => ?_⟩
  rcases List.mem_append.1 (hp.mem_iff.1 hx) with h | h
  · exact Nat.lt_of_lt_of_le (o.lt x (hm x h).1) hc
  · rw [List.mem_singleton] at h; subst h; exact hlt
theorem erase_map {α β : Type} (f : α → β) : ∀ (l : List α) (j : Nat), (l.eraseIdx j).map f = (l.map f).eraseIdx j := by
  intro l
  induction l with
  | nil => intro j; rfl
  | cons a l ih =>
    intro j
    cases j with
    | zero => rfl
    | succ j => simp [ih j]
theorem MapOk.filter {M : List HE} {clock : Nat} (o : MapOk M clock) (p : HE → Bool) : MapOk (M.filter p) clock := ⟨o.nm.filter _, o.bn.filter _, fun e he => o.lt e (List.mem_filter.1 he).1⟩
end Go.Proofs

namespace Go.Proofs
open Go.Vai Go.Clashes
theorem countP_lt {α : Type} {p q : α → Bool} : ∀ (L : List α), (∀ x ∈ L, q x = true → p x = true) → (∃ x ∈ L, p x = true ∧ q x = false) → L.countP q < L.countP p := by
  intro L
  induction L with
  | nil => rintro _ ⟨x, hx, _⟩; nomatch hx
  | cons a L ih =>
    intro h hx
    have hle : L.countP q ≤ L.countP p := List.countP_mono_left fun x hx => h x (.tail _ hx)
    rw [List.countP_cons, List.countP_cons]
    by_cases ha : p a = true ∧ q a = false
    · rw [ha.1, ha.2]; simp; omega
    · have ht : ∃ x ∈ L, p x = true ∧ q x = false := by
        obtain ⟨x, hx, h1⟩ := hx
        rcases List.mem_cons.1 hx with rfl | hx
        · exact absurd h1 ha
        · exact ⟨x, hx, h1⟩
      have := ih (fun x hx => h x (.tail _ hx)) ht
      have ha2 := h a (.head _)
      cases hq : q a with
      | false => simp; omega
      | true => rw [ha2 hq]; simp; omega
theorem anyNext_of {b m since : Nat} {seen : List Nat} {clock : Nat} {h : Heap} {κ : Value → Heap → Prop} (hlo : h.lo ≤ b) : ∀ (es : List MapEntry) (e : MapEntry), (∀ x ∈ e :: es, x.born < since) → (∀ x ∈ e :: es, κ (.tuple ⟨[.bool true, x.key, x.val]⟩) ⟨h.nx, h.bl.upd b (.miter (some m) since (x.born :: seen) clock), h.lo⟩) → anyNext False And b m since seen clock h κ e es := by
  intro es
  induction es with
  | nil =>
    intro e hb hk
    unfold anyNext
    rw [Nat.ble_eq_true_of_le (show Nat.succ e.born ≤ since from hb e (.head _))]
    simp only
    rw [setBlock_eq _ _ _ _ hlo]
    exact hk e (.head _)
  | cons a es ih =>
    intro e hb hk
    unfold anyNext
    rw [Nat.ble_eq_true_of_le (show Nat.succ e.born ≤ since from hb e (.head _))]
    simp only
    rw [setBlock_eq _ _ _ _ hlo]
    exact ⟨hk e (.head _), ih a (fun x hx => hb x (.tail _ hx)) fun x hx => hk x (.tail _ hx)⟩
theorem range_eq {β : Type} {fl : β} {bm clock : Nat} {es : List MapEntry} {h : Heap} (g : h.bl.get bm = some (.map es clock)) (κ : Value → Heap → β) :
    rangeB fl (.map (some bm)) h κ = κ (.pointer (some ⟨h.nx, 0, none⟩)) ⟨h.nx + 1, h.bl.upd h.nx (.miter (some bm) clock [] clock), h.lo⟩ := by
  unfold rangeB
  simp only [g, newBlock_eq]
end Go.Proofs

namespace Go.Proofs
open Go.Vai Go.Clashes
def cmpI (a b : Int) : Int := if a < b then -1 else if b < a then 1 else 0
def nmCmp (t r t' r' : Int) : Int := if cmpI t t' = 0 then cmpI r r' else cmpI t t'
theorem isNaN_w (a : Int) {h : Heap} {κ : Value → Heap → Prop} (hk : κ (.bool false) h) : CallW Tryd.prog 29 [.int .i64 a] h κ := by
  refine pureW (v := .bool false) rfl rfl (callW_of mixed ?_) hk
  rw [rs_29]; simp(disch:=first|omega|(simp only[Wx];done)|(simp only[Wy];done)|(simp only[Wv];omega)|with_unfolding_all rfl)only[Wz,ptrTo,sliceTo]
theorem compareI_w (a b : Int) {h : Heap} {κ : Value → Heap → Prop} (hk : κ (.int .i64 (cmpI a b)) h) : CallW Tryd.prog 21 [.int .i64 a, .int .i64 b] h κ := by
  refine pureW (v := .int .i64 (cmpI a b)) rfl rfl (callW_of mixed ?_) hk
  rw [rs_21]
  refine isNaN_w _ (isNaN_w _ ?_)
  rcases Int.lt_trichotomy a b with h1 | h1 | h1
  · simp(disch:=first|omega|(simp only[Wx];done)|(simp only[Wy];done)|(simp only[Wv];omega)|with_unfolding_all rfl)only[Wz,ptrTo,sliceTo, rs_21_0]; simp [cmpI, h1]
  · simp(disch:=first|omega|(simp only[Wx];done)|(simp only[Wy];done)|(simp only[Wv];omega)|with_unfolding_all rfl)only[Wz,ptrTo,sliceTo, rs_21_0]; simp [cmpI, h1]
  · simp(disch:=first|omega|(simp only[Wx];done)|(simp only[Wy];done)|(simp only[Wv];omega)|with_unfolding_all rfl)only[Wz,ptrTo,sliceTo, rs_21_0]; simp [cmpI, h1]; omega
theorem or_w (a b : Int) (h : Heap) (v : Value) (hv : Sl (fun n => [Value.int .i64 n]) h v [a, b]) (κ : Value → Heap → Prop) (hk : κ (.int .i64 (if a = 0 then b else a)) h) : CallW Tryd.prog 20 [v] h κ := by
  refine callW_of mixed ?_
  rw [rs_20]
  simp only [hv.len]
  have he : ∀ n : Int, ((fun n => [Value.int .i64 n]) n).length = 1 := fun _ => rfl
  have f0 := hv.ld he 0 (p := a) rfl
  have f1 := hv.ld he 1 (p := b) rfl
  obtain ⟨b0, o0, hb0, hat0, _, hh0⟩ := f0
  obtain ⟨b1, o1, hb1, hat1, _, hh1⟩ := f1
  have hx0 := fun (β : Type) (fl : β) κ => ldO_has (fl := fl) hh0 0 κ (Nat.lt_succ_self _)
  have hx1 := fun (β : Type) (fl : β) κ => ldO_has (fl := fl) hh1 0 κ (Nat.lt_succ_self _)
  simp only [Nat.add_zero] at hx0 hx1
  refine ⟨fun n l h1 => h1 = h ∧ ∃ k : Nat, slot l 10 = .int .i64 (k : Int) ∧ k ≤ 2 ∧ n = 2 - k ∧ (0 < k → a = 0) ∧ (1 < k → b = 0), ⟨2, rfl, 0, rfl, by omega, by omega, by omega, by omega⟩, ?_⟩
  rintro n l h1 ⟨rfl, k, hs, hk2, rfl, ha, hb⟩
  have : k = 0 ∨ k = 1 ∨ k = 2 := by omega
  rcases this with rfl | rfl | rfl
  · by_cases h1 : a = 0
    · simp(disch:=first|omega|(simp only[Wx];done)|(simp only[Wy];done)|(simp only[Wv];omega)|with_unfolding_all rfl)only[Wz,ptrTo,sliceTo, hv.len, hs, rs_20_0, hat0, hx0, h1, List.length_cons, List.length_nil]
      exact ⟨1, by omega, trivial, 1, rfl, by omega, by omega, fun _ => trivial, fun h => by omega⟩
    · simp(disch:=first|omega|(simp only[Wx];done)|(simp only[Wy];done)|(simp only[Wv];omega)|with_unfolding_all rfl)only[Wz,ptrTo,sliceTo, hv.len, hs, rs_20_0, hat0, hx0, dec_f h1, List.length_cons, List.length_nil]
      simpa [h1] using hk
  · have ha := ha (by omega)
    by_cases h1 : b = 0
    · simp(disch:=first|omega|(simp only[Wx];done)|(simp only[Wy];done)|(simp only[Wv];omega)|with_unfolding_all rfl)only[Wz,ptrTo,sliceTo, hv.len, hs, rs_20_0, hat1, hx1, h1, List.length_cons, List.length_nil]
      exact ⟨0, by omega, trivial, 2, rfl, by omega, by omega, fun _ => ha, fun h => trivial⟩
    · simp(disch:=first|omega|(simp only[Wx];done)|(simp only[Wy];done)|(simp only[Wv];omega)|with_unfolding_all rfl)only[Wz,ptrTo,sliceTo, hv.len, hs, rs_20_0, hat1, hx1, dec_f h1, List.length_cons, List.length_nil]
      simpa [ha] using hk
  · simp(disch:=first|omega|(simp only[Wx];done)|(simp only[Wy];done)|(simp only[Wv];omega)|with_unfolding_all rfl)only[Wz,ptrTo,sliceTo, hv.len, hs, List.length_cons, List.length_nil]
    have ha := ha (by omega)
    have hb := hb (by omega)
    simpa [ha, hb] using hk
theorem nmCompare_w (t r t' r' : Int) {h : Heap} {κ : Value → Heap → Prop} (hk : κ (.int .i64 (nmCmp t r t' r')) h) : CallW Tryd.prog 22 [nmV t r, nmV t' r'] h κ := by
  refine pureW (v := .int .i64 (nmCmp t r t' r')) rfl rfl (callW_of mixed ?_) hk
  rw [rs_22]
  simp(disch:=first|omega|(simp only[Wx];done)|(simp only[Wy];done)|(simp only[Wv];omega)|with_unfolding_all rfl)only[Wz,ptrTo,sliceTo, nmV]
  refine compareI_w _ _ ?_
  simp(disch:=first|omega|(simp only[Wx];done)|(simp only[Wy];done)|(simp only[Wv];omega)|with_unfolding_all rfl)only[Wz,ptrTo,sliceTo]
  refine compareI_w _ _ ?_
  simp(disch:=first|omega|(simp only[Wx];done)|(simp only[Wy];done)|(simp only[Wv];omega)|with_unfolding_all rfl)only[Wz,ptrTo,sliceTo]
  refine or_w _ _ _ _ (Sl.new (L := [cmpI t t', cmpI r r']) (e := 3) (op := false) (Nat.lt_succ_self _) (T.get_upd_same _ _ _) _) _ ?_
  rfl
end Go.Proofs

namespace Go.Proofs
open Go.Vai Go.Clashes
end Go.Proofs

namespace Go.Proofs
open Go.Vai Go.Clashes
def slV (v : Value) : Value := match v with | .slice a n c => .slice a n c | _ => .slice none 0 0
def encH (e : HE) : List Value := [.int .i64 e.t, .int .i64 e.r, slV e.q, .int .i64 e.w]
theorem encH_len (e : HE) : (encH e).length = 4 := rfl
theorem encH_one (e : HE) : (encH e).all oneC = true := by
  unfold encH slV
  split <;> rfl
abbrev OwnH (a h : Heap) (v : Value) (K : List HE) : Prop := Own encH a 33 h v K
theorem ldHs {h : Heap} {v : Value} {K : List HE} (hs : Sl encH h v K) (i : Nat) {e : HE} (hp : K[i]? = some e) (hq : slV e.q = e.q) :
    ∃ b o, b < h.nx ∧ (∀ (β : Type) (fl : β) (h' : Heap) (κ : Value → Heap → β), indexAddrS fl 4 v (.int .i64 (i : Int)) h' κ = κ (.pointer (some ⟨b, o, none⟩)) h') ∧
      ∀ h', Le h h' → ((∀ (β : Type) (fl : β) (κ : List Value → β), ldA fl (h'.bl.get b) o 2 κ = κ [.int .i64 e.t, .int .i64 e.r]) ∧
      (∀ (β : Type) (fl : β) (κ : List Value → β), ldA fl (h'.bl.get b) o 4 κ = κ [.int .i64 e.t, .int .i64 e.r, e.q, .int .i64 e.w]) ∧
      (∀ (β : Type) (fl : β) (κ : Value → β), ldO fl (h'.bl.get b) o κ = κ (.int .i64 e.t)) ∧
      (∀ (β : Type) (fl : β) (κ : Value → β), ldO fl (h'.bl.get b) (o + 1) κ = κ (.int .i64 e.r)) ∧
      (∀ (β : Type) (fl : β) (κ : Value → β), ldO fl (h'.bl.get b) (o + 2) κ = κ e.q) ∧
      (∀ (β : Type) (fl : β) (κ : Value → β), ldO fl (h'.bl.get b) (o + 3) κ = κ (.int .i64 e.w))) := by
  obtain ⟨b, o, h1, h2, h3, hh⟩ := hs.ld encH_len i hp
  refine ⟨b, o, h1, h2, fun h' l => ?_⟩
  rw [l.get b h1]
  refine ⟨fun β fl κ => ?_, fun β fl κ => ?_, fun β fl κ => ?_, fun β fl κ => ?_, fun β fl κ => ?_, fun β fl κ => ?_⟩
  · have := hh.sub 0 2 (by show 0 + 2 ≤ 4; omega)
    rw [Nat.add_zero] at this
    exact ldA_has this 2 κ rfl
  · rw [ldA_has hh 4 κ rfl]; unfold encH; rw [hq]
  · exact ldO_has (fl := fl) hh 0 κ (by show 0 < 4; omega)
  · exact ldO_has (fl := fl) hh 1 κ (by show 1 < 4; omega)
  · rw [ldO_has (fl := fl) hh 2 κ (by show 2 < 4; omega)]; show κ (slV e.q) = _; rw [hq]
  · exact ldO_has (fl := fl) hh 3 κ (by show 3 < 4; omega)
end Go.Proofs

namespace Go.Proofs
open Go.Vai Go.Clashes
theorem bin_eqN {β : Type} {fl : β} (cn : Bool) (a b c d : Int) (h : Heap) (κ : Value → Heap → β) : binB fl Tryd.prog .eql 30 cn false (.agg ⟨[.int .i64 a, .int .i64 b]⟩) (.agg ⟨[.int .i64 c, .int .i64 d]⟩) h κ = κ (.bool (decide (a = c ∧ b = d))) h := by
  have := eqN h a b c d
  unfold nmV at this
  simp only [binB, this, fbK_eq]
end Go.Proofs
