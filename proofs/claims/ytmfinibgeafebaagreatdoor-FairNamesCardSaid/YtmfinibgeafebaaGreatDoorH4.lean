/-
  PROVED HERE: a part of the proof, by a calculus of weakest conditions over an abstract heap (VaiM, VaiN, VaiZ, VaiO, VaiA, VaiY, FP1, FP2, FP3, FP4, VaiP).
-/
import Derived.Test.YtmfinibgeafebaaGreatDoorH3
import Derived.Deep.Slices
import Derived.Carry
import Derived.ProofKit
import Derived.Test.YtmfinibgeafebaaGreatDoorRF
import Derived.Test.YtmfinibgeafebaaGreatDoorH2
set_option linter.unusedVariables false
set_option linter.unusedSimpArgs false
set_option maxRecDepth 100000
set_option maxHeartbeats 1000000
namespace Go.Vai
open Go Go.RowKit
variable {β : Type} {fl : β} {P : Program}

/-! ## a closed call of scalars -/
theorem scal_VR {φ : Emb} {v : Value} (hv : scal v = true) : VR φ v v := by
  cases v <;> first | exact VR.scal hv | (exact VR.agg' (F2.scal hv)) | cases hv
theorem of_scalL {φ : Emb} : ∀ {l l' : List Value}, l.all scal1 = true → F2 (VR φ) l l' → l' = l := by
  intro l
  induction l with
  | nil => intro l' _ h; cases h; rfl
  | cons v l ih =>
    intro l' hs h
    simp only [List.all_cons, Bool.and_eq_true] at hs
    cases h with
    | cons h1 h2 => rw [ih hs.2 h2, VR.of_scal hs.1 h1]
theorem of_scal_VR {φ : Emb} {v v' : Value} (hv : scal v = true) (h : VR φ v v') : v' = v := by
  cases h with
  | agg a a' ha hva =>
    have := of_scalL (l' := a'.toList) hv (F2.of_get ha hva)
    obtain ⟨l⟩ := a; obtain ⟨l'⟩ := a'
    simp only at this; rw [this]
  | bool => rfl
  | int => rfl
  | string => rfl
  | _ => cases hv
theorem scals_VR {φ : Emb} : ∀ {l : List Value}, l.all scal = true → F2 (VR φ) l l := by
  intro l
  induction l with
  | nil => intro _; exact .nil
  | cons v l ih =>
    intro h
    simp only [List.all_cons, Bool.and_eq_true] at h
    exact .cons (scal_VR h.1) (ih h.2)
theorem of_scals {φ : Emb} : ∀ {l l' : List Value}, l.all scal = true → F2 (VR φ) l l' → l' = l := by
  intro l
  induction l with
  | nil => intro l' _ h; cases h; rfl
  | cons v l ih =>
    intro l' hs h
    simp only [List.all_cons, Bool.and_eq_true] at hs
    cases h with
    | cons h1 h2 => rw [ih hs.2 h2, of_scal_VR hs.1 h1]

noncomputable def answersS (P : Program) (n : Nat) (f : FuncId) (args : List Value) (v : Value) : Bool :=
  args.all scal && scal v && callF false noPr P (run false noPr P n) f args ⟨0, .nil, 0⟩ fun v' _ => veq 8 v' v

theorem closedW (hm : P.follows .mixedOrders = true) {n : Nat} {f : FuncId} {args : List Value} {v : Value} (ha : answersS P n f args v = true) {h : Heap} {κ : Value → Heap → Prop} (hk : κ v h) : CallW P f args h κ := by
  intro φ w args' hf hr
  have hfl : ¬ yes false := by simp [yes]
  simp only [answersS, Bool.and_eq_true] at ha
  obtain ⟨⟨ha1, hv⟩, ha2⟩ := ha
  have := of_scals ha1 hf
  subst this
  have hc := callF_sound (good := yes) (w := w) hfl (noPrims (P := P)) (run_sound (good := yes) hfl noPrims (draw_sound hfl noPrims hm) n).1 (scals_VR ha1) (HR.start w) ha2
  refine ⟨hc.1, Calls.mono hc.2 ?_⟩
  rintro e w' ⟨φ', v1, v', h', rfl, g1, g2, g3, g4⟩
  have e1 := veq_eq 8 _ _ g1
  subst e1
  have hfr : ∀ B, B < w.heap.size → w'.heap[B]? = w.heap[B]? := fun B hB => g4.frC B hB fun b pl e => by cases e
  refine ⟨φ, v1, v', h, rfl, hk, by rw [of_scal_VR hv g2]; exact scal_VR hv, ?_, ?_⟩
  · exact ⟨fun b o pl h1 h2 => by rw [hfr _ (hr.dom b pl h2).2]; exact hr.obj b o pl h1 h2, fun b pl h1 => ⟨(hr.dom b pl h1).1, Nat.lt_of_lt_of_le (hr.dom b pl h1).2 g4.size⟩, hr.keys, hr.nxs, hr.inj, hr.lo⟩
  · exact ⟨Sub.refl φ, fun b pl e e' => (by rw [e] at e'; cases e'), Nat.le_refl _, g4.size, fun B hB _ => hfr B hB, fun _ _ _ => rfl, g4.tape, g4.os, g4.output, fun _ _ => trivial, rfl, fun _ _ => rfl, fun b o pl _ _ _ _ hB => hfr _ hB, g4.dr⟩

/-! ## the law's end -/
theorem grown_ro {φ φ' : Emb} {h h' : Heap} {w w' : World} (hx : Ext φ φ' h h' w w') (hro : ∀ b pl, φ b = some pl → b < h.lo ∧ ∃ o, h.bl.get b = some o ∧ o.live) : GrownOld w w' := by
  have hfr : ∀ B, B < w.heap.size → w'.heap[B]? = w.heap[B]? := fun B hB => by
    by_cases he : ∃ b pl, φ b = some pl ∧ pl.B = B
    · obtain ⟨b, pl, h1, rfl⟩ := he
      obtain ⟨h2, o, h3, h4⟩ := hro b pl h1
      exact hx.frW b o pl h2 h3 h4 h1 hB
    · exact hx.frC B hB fun b pl h1 h2 => he ⟨b, pl, h1, h2⟩
  refine ⟨⟨hx.os, hx.output, fun i hi => ?_⟩, fun a ha => ?_, hx.size⟩
  · rw [hfr i hi]
    cases w.heap[i]? with
    | none => rfl
    | some O => cases O <;> first | exact ⟨rfl, rfl, rfl, fun _ _ => rfl⟩ | exact .inr ⟨rfl, rfl⟩ | rfl
  · simp only [World.frozen?, hfr a.block ha]

def IsTrue (v : Value) (_h : Heap) : Prop := v = .bool true
theorem lawEnd {f : FuncId} {args args' : List Value} {φ : Emb} {h : Heap} {w : World} (hc : CallW P f args h IsTrue) (ha : F2 (VR φ) args args') (hr : HR P φ h w) (hro : ∀ b pl, φ b = some pl → b < h.lo ∧ ∃ o, h.bl.get b = some o ∧ o.live) :
    Calls P f args'.toArray w fun e w' => e = .returned (.bool true) ∧ GrownOld w w' := by
  refine Calls.mono (hc φ w args' ha hr).2 ?_
  rintro e w' ⟨φ', v, v', h', rfl, g1, g2, g3, g4⟩
  have g1 : v = .bool true := g1
  subst g1
  cases g2
  exact ⟨rfl, grown_ro g4 hro⟩

/-! ## what a block has -/
def Has (ob : Option AObj) (o : Nat) (ws : List Value) : Prop :=
  ∃ n c e, (ob = some (.ro n c e) ∨ ∃ op, ob = some (.cells n c e op)) ∧ o + ws.length ≤ n ∧ ∀ j v, ws[j]? = some v → c.get (o + j) = some v

theorem Has.cells {vs : List Value} {e : TypeId} {op : Bool} {o k : Nat} (h : o + k ≤ vs.length) : Has (some (cellsO vs e op)) o ((vs.drop o).take k) := by
  refine ⟨vs.length, lay vs .nil 0, e, .inr ⟨op, rfl⟩, by simp; omega, fun j v hj => ?_⟩
  rw [get_laid']
  rw [List.getElem?_take] at hj
  split at hj
  · simpa [List.getElem?_drop] using hj
  · cases hj
theorem Has.all {vs : List Value} {e : TypeId} {op : Bool} : Has (some (cellsO vs e op)) 0 vs := by
  have := Has.cells (vs := vs) (e := e) (op := op) (o := 0) (k := vs.length) (by omega)
  simpa using this
theorem Has.sub {ob : Option AObj} {o : Nat} {ws : List Value} (h : Has ob o ws) (i k : Nat) (hk : i + k ≤ ws.length) : Has ob (o + i) ((ws.drop i).take k) := by
  obtain ⟨n, c, e, h1, h2, h3⟩ := h
  refine ⟨n, c, e, h1, by simp; omega, fun j v hj => ?_⟩
  rw [List.getElem?_take] at hj
  split at hj
  · rw [List.getElem?_drop] at hj
    rw [Nat.add_assoc]; exact h3 _ _ hj
  · cases hj
theorem ldO_has {ob : Option AObj} {o : Nat} {ws : List Value} (h : Has ob o ws) (j : Nat) (κ : Value → β) : j < ws.length → ldO fl ob (o + j) κ = optK fl ws[j]? κ := by
  intro hj
  obtain ⟨n, c, e, h1, h2, h3⟩ := h
  have hle : Nat.ble (Nat.succ (o + j)) n = true := Nat.ble_eq_true_of_le (by omega)
  have hv := h3 j _ (List.getElem?_eq_getElem hj)
  rw [List.getElem?_eq_getElem hj]
  rcases h1 with rfl | ⟨op, rfl⟩ <;> simp only [ldO, hle, hv, optK]
theorem loadN_get (c : T Value) (ws : List Value) (off : Nat) : ∀ (n : Nat) (acc : List Value) (κ : List Value → β), n ≤ ws.length → (∀ j v, ws[j]? = some v → c.get (off + j) = some v) → loadN fl c off n acc κ = κ (ws.take n ++ acc) := by
  intro n
  induction n with
  | zero => intro acc κ _ _; simp; rfl
  | succ n ih =>
    intro acc κ h hc
    show Option.rec (motive := fun _ => β) fl (fun v => loadN fl c off n (v :: acc) κ) (c.get (Nat.add off n)) = _
    rw [show Nat.add off n = off + n from rfl, hc n _ (List.getElem?_eq_getElem (by omega))]
    show loadN fl c off n (ws[n] :: acc) κ = _
    rw [ih _ _ (by omega) hc, List.take_succ_eq_append_getElem (by omega)]
    simp only [List.append_assoc, List.cons_append, List.nil_append]
theorem ldA_has {ob : Option AObj} {o : Nat} {ws : List Value} (h : Has ob o ws) (s : Nat) (κ : List Value → β) (hs : s = ws.length) : ldA fl ob o s κ = κ ws := by
  obtain ⟨n, c, e, h1, h2, h3⟩ := h
  subst hs
  have hle : Nat.ble (Nat.add o ws.length) n = true := Nat.ble_eq_true_of_le h2
  rcases h1 with rfl | ⟨op, rfl⟩ <;> simp only [ldA, hle] <;> rw [loadN_get c ws o _ _ _ (Nat.le_refl _) h3] <;> simp
theorem firstB_zero (h : Heap) (size n : Nat) (x : Value) (κ : List Value → β) (h0 : n * size = 0) : firstB fl h size n x κ = κ [] := by
  unfold firstB
  rw [show Nat.mul n size = 0 from h0]
theorem firstB_has {h : Heap} {b o : Nat} {ws : List Value} (hh : Has (h.bl.get b) o ws) (size n l c : Nat) (κ : List Value → β) (hn : n * size = ws.length) : firstB fl h size n (.slice (some ⟨b, o, none⟩) l c) κ = κ ws := by
  unfold firstB
  rw [show Nat.mul n size = ws.length from hn]
  cases hw : ws with
  | nil => rfl
  | cons w0 ws0 =>
    obtain ⟨nn, cc, e, h1, h2, h3⟩ := hh
    rw [hw] at h2 h3
    have hle : Nat.ble (Nat.add o (Nat.succ ws0.length)) nn = true := Nat.ble_eq_true_of_le (by simpa using h2)
    have fin : loadN fl cc o (Nat.succ ws0.length) [] κ = κ (w0 :: ws0) := by
      rw [loadN_get cc (w0 :: ws0) o _ _ _ (by simp) h3]
      congr 1
      simp
    rcases h1 with h1 | ⟨op, h1⟩ <;> simp only [List.length_cons, h1, hle] <;> exact fin

/-! ## a slice that reads as a list -/
section
variable {α : Type} (enc : α → List Value) (s : Nat)
/-- the elements lie one behind the other, s cells each -/
def Sl (h : Heap) (v : Value) (L : List α) : Prop :=
  ∃ x cap, v = .slice x L.length cap ∧ (L ≠ [] → ∃ b o, x = some ⟨b, o, none⟩ ∧ b < h.nx ∧ Has (h.bl.get b) o (L.flatMap enc))
variable {enc s}
theorem Sl.le {h h' : Heap} {v : Value} {L : List α} (hs : Sl enc h v L) (hl : Le h h') : Sl enc h' v L := by
  obtain ⟨x, cap, h1, h2⟩ := hs
  refine ⟨x, cap, h1, fun hn => ?_⟩
  obtain ⟨b, o, e1, e2, e3⟩ := h2 hn
  exact ⟨b, o, e1, Nat.lt_of_lt_of_le e2 hl.nx, by rw [hl.get b e2]; exact e3⟩
theorem Sl.nil (h : Heap) (x : Option Addr) (cap : Nat) : Sl enc h (.slice x 0 cap) ([] : List α) := ⟨x, cap, rfl, fun hn => absurd rfl hn⟩
theorem flat_length (he : ∀ a : α, (enc a).length = s) (L : List α) : (L.flatMap enc).length = L.length * s := by
  induction L with
  | nil => simp
  | cons a L ih => simp [he, ih, Nat.succ_mul, Nat.add_comm]
theorem flat_at (he : ∀ a : α, (enc a).length = s) : ∀ (L : List α) (i : Nat) (hi : i < L.length), ((L.flatMap enc).drop (i * s)).take s = enc L[i] := by
  intro L
  induction L with
  | nil => intro i hi; simp at hi
  | cons a L ih =>
    intro i hi
    cases i with
    | zero => simp [List.take_append, he]
    | succ i =>
      have := ih i (by simpa using hi)
      simp only [List.flatMap_cons, List.getElem_cons_succ]
      rw [← this, List.drop_append, show (enc a).drop ((i + 1) * s) = [] from List.drop_eq_nil_of_le (by rw [he, Nat.succ_mul]; omega), he, show (i + 1) * s - s = i * s by rw [Nat.succ_mul]; omega]
      rfl
/-- an element's cells -/
theorem Sl.elem {h : Heap} {v : Value} {L : List α} (hs : Sl enc h v L) (he : ∀ a : α, (enc a).length = s) (i : Nat) (hi : i < L.length) :
    ∃ b o cap, v = .slice (some ⟨b, o, none⟩) L.length cap ∧ b < h.nx ∧ Has (h.bl.get b) (o + i * s) (enc L[i]) := by
  obtain ⟨x, cap, h1, h2⟩ := hs
  obtain ⟨b, o, e1, e2, e3⟩ := h2 (by intro e; rw [e] at hi; simp at hi)
  subst e1
  refine ⟨b, o, cap, h1, e2, ?_⟩
  have hle : i * s + s ≤ (L.flatMap enc).length := by
    rw [flat_length he, ← Nat.succ_mul]; exact Nat.mul_le_mul_right _ hi
  have := e3.sub (i * s) s hle
  rwa [flat_at he L i hi] at this
theorem Sl.len {h : Heap} {v : Value} {L : List α} (hs : Sl enc h v L) (κ : Value → Heap → β) (h' : Heap) : lenSli fl v h' κ = κ (.int .i64 (L.length : Int)) h' := by
  obtain ⟨x, cap, rfl, _⟩ := hs; rfl
/-- an element's address -/
theorem Sl.at {h : Heap} {v : Value} {L : List α} (hs : Sl enc h v L) (he : ∀ a : α, (enc a).length = s) (i : Nat) (hi : i < L.length) :
    ∃ b o, b < h.nx ∧ Has (h.bl.get b) o (enc L[i]) ∧ ∀ (β : Type) (fl : β) (h' : Heap) (κ : Value → Heap → β), indexAddrS fl s v (.int .i64 (i : Int)) h' κ = κ (.pointer (some ⟨b, o, none⟩)) h' := by
  obtain ⟨b, o, cap, rfl, h1, h2⟩ := hs.elem he i hi
  exact ⟨b, o + i * s, h1, h2, fun β fl h' κ => indexAddr_eq s b o _ cap i h' κ hi⟩
/-- an element: its address; how it is read, whole and cell by cell -/
theorem Sl.ld {h : Heap} {v : Value} {L : List α} (hs : Sl enc h v L) (he : ∀ a : α, (enc a).length = s) (i : Nat) {p : α} (hp : L[i]? = some p) :
    ∃ b o, b < h.nx ∧ (∀ (β : Type) (fl : β) (h' : Heap) (κ : Value → Heap → β), indexAddrS fl s v (.int .i64 (i : Int)) h' κ = κ (.pointer (some ⟨b, o, none⟩)) h') ∧
      (∀ (β : Type) (fl : β) (κ : List Value → β), ldA fl (h.bl.get b) o s κ = κ (enc p)) ∧ Has (h.bl.get b) o (enc p) := by
  obtain ⟨hi, rfl⟩ := List.getElem?_eq_some_iff.1 hp
  obtain ⟨b, o, h1, h2, h3⟩ := hs.at he i hi
  exact ⟨b, o, h1, h3, fun β fl κ => ldA_has h2 s κ (he _).symm, h2⟩
theorem Sl.first {h : Heap} {v : Value} {L : List α} (hs : Sl enc h v L) (he : ∀ a : α, (enc a).length = s) (κ : List Value → β) : firstB fl h s L.length v κ = κ (L.flatMap enc) := by
  by_cases hn : L = []
  · subst hn; rw [firstB_zero _ _ _ _ _ (by simp)]; rfl
  · obtain ⟨x, cap, rfl, h2⟩ := hs
    obtain ⟨b, o, rfl, e2, e3⟩ := h2 hn
    exact firstB_has e3 _ _ _ _ _ (flat_length he L).symm

/-! ## a slice of the call's own -/
/-- a new block's slice -/
theorem Sl.new {h : Heap} {b : Nat} {L : List α} {e : TypeId} {op : Bool} (hb : b < h.nx) (hg : h.bl.get b = some (cellsO (L.flatMap enc) e op)) (cap : Nat) : Sl enc h (.slice (some ⟨b, 0, none⟩) L.length cap) L :=
  ⟨_, cap, rfl, fun _ => ⟨b, 0, rfl, hb, by rw [hg]; exact Has.all⟩⟩

variable (enc)
/-- nobody else's: nothing yet, or a block that is full -/
def Own (a : Heap) (e : TypeId) (h : Heap) (v : Value) (L : List α) : Prop :=
  (L = [] ∧ (v = .slice none 0 0 ∨ ∃ b o, v = .slice (some ⟨b, o, none⟩) 0 0)) ∨ ∃ b, v = .slice (some ⟨b, 0, none⟩) L.length openCap ∧ a.nx ≤ b ∧ b < h.nx ∧ h.lo ≤ b ∧ h.bl.get b = some (cellsO (L.flatMap enc) e true)
variable {enc}
theorem Own.sl {a h : Heap} {e : TypeId} {v : Value} {L : List α} (ho : Own enc a e h v L) : Sl enc h v L := by
  rcases ho with ⟨rfl, rfl | ⟨b, o, rfl⟩⟩ | ⟨b, rfl, h1, h2, h3, h4⟩
  · exact Sl.nil _ _ _
  · exact Sl.nil _ _ _
  · exact Sl.new h2 h4 _
theorem Own.le {a h h' : Heap} {e : TypeId} {v : Value} {L : List α} (ho : Own enc a e h v L) (hl : Le h h') : Own enc a e h' v L := by
  rcases ho with ho | ⟨b, h0, h1, h2, h3, h4⟩
  · exact .inl ho
  · exact .inr ⟨b, h0, h1, Nat.lt_of_lt_of_le h2 hl.nx, by rw [hl.lo]; exact h3, by rw [hl.get b h2]; exact h4⟩

theorem append_nil {both : β → β → β} {h : Heap} {e : TypeId} {z : List Value} {v x : Value} (hx : Sl enc h x ([] : List α)) (hv : ∃ b n c, v = .slice b n c) (κ : Value → Heap → β) : appendB fl both e s z false v x h κ = κ v h := by
  obtain ⟨b, n, c, rfl⟩ := hv
  obtain ⟨y, cap, rfl, _⟩ := hx
  simp only [appendB, comeB, List.length_nil]
  rw [firstB_zero _ _ _ _ _ (by simp)]

set_option maxRecDepth 20000 in
theorem append_own {a h : Heap} {e : TypeId} {z : List Value} {v x : Value} {L M : List α} (he : ∀ a : α, (enc a).length = s) (hone : ∀ a : α, (enc a).all oneC = true) (hs0 : 0 < s) (hs1 : s ≤ 100) (ho : Own enc a e h v L) (hx : Sl enc h x M)
    (hle : Le a h) (hb : L.length + M.length ≤ 1000000) (hal : h.lo ≤ h.nx) (κ : Value → Heap → Prop)
    (hk : ∀ v' h', Own enc a e h' v' (L ++ M) → Le a h' → h'.nx ≤ h.nx + 1 → h.nx ≤ h'.nx → κ v' h') : appendB False And e s z false v x h κ := by
  by_cases hM : M = []
  · subst hM
    rw [append_nil hx (by rcases ho with ⟨rfl, rfl | ⟨b, o, rfl⟩⟩ | ⟨b, rfl, _⟩ <;> exact ⟨_, _, _, rfl⟩)]
    exact hk v h (by simpa using ho) hle (Nat.le_succ _) (Nat.le_refl _)
  · obtain ⟨m, hm⟩ : ∃ m, M.length = m + 1 := ⟨M.length - 1, by have := List.length_pos_iff.2 hM; omega⟩
    have hfl := flat_length (enc := enc) he
    have hfirst := hx.first (β := Prop) (fl := False) he
    obtain ⟨y, cap, rfl, h2⟩ := hx
    have hml : ∀ K : List α, K.length ≤ 1000000 → (K.flatMap enc).length ≤ 1000000000000 := fun K hK => by
      rw [hfl]
      have := Nat.mul_le_mul hK hs1
      omega
    have fresh : ∀ (hh : Heap) (ws : List Value), ws = (L ++ M).flatMap enc → Le a hh → hh.nx = h.nx → hh.lo = h.lo → newCells False ws e true hh fun b h' => κ (.slice (some ⟨b, 0, none⟩) (L.length + M.length) openCap) h' := by
      intro hh ws hw hah hnx hlo
      subst hw
      unfold newCells
      rw [cellsK_eq _ _ _ _ (hml _ (by simp; omega)), newBlock_eq]
      refine hk _ _ (.inr ⟨hh.nx, by simp, hah.nx, Nat.lt_succ_self _, by show hh.lo ≤ _; omega, T.get_upd_same _ _ _⟩) (hah.new _) (by show hh.nx + 1 ≤ _; omega) (by show h.nx ≤ hh.nx + 1; omega)
    rcases ho with ⟨rfl, hv⟩ | ⟨b, rfl, h3, h4, h5, h6⟩
    · have hF := fresh h (M.flatMap enc) (by simp) hle rfl rfl
      simp only [List.length_nil, Nat.zero_add] at hF
      rcases hv with rfl | ⟨b, o, rfl⟩
      · unfold appendB comeB
        simp only
        rw [hfirst]
        simp only [hm, fnK_eq]
        rw [show Nat.ble (Nat.add 0 (m + 1)) 1000000000 = true from Nat.ble_eq_true_of_le (by show 0 + (m + 1) ≤ _; omega)]
        rw [hm] at hF
        have e1 : Nat.add 0 (m + 1) = m + 1 := by show 0 + (m + 1) = _; omega
        rw [e1]
        exact hF
      · unfold appendB comeB
        simp only
        rw [hfirst]
        simp only [hm, fnK_eq]
        have e1 : Nat.add 0 (m + 1) = m + 1 := by show 0 + (m + 1) = _; omega
        rw [e1, show Nat.ble (m + 1) 1000000000 = true from Nat.ble_eq_true_of_le (by omega)]
        rw [hm] at hF
        show firstB False h s 0 _ _
        rw [firstB_zero _ _ _ _ _ (by simp)]
        exact hF
    · unfold appendB comeB
      simp only
      rw [hfirst]
      simp only [hm, fnK_eq]
      have e1 : Nat.add L.length (m + 1) = L.length + (m + 1) := rfl
      rw [e1, show Nat.ble (L.length + (m + 1)) 1000000000 = true from Nat.ble_eq_true_of_le (by omega)]
      have e2 : Nat.beq openCap anyCap = false := by decide
      have e3 : Nat.beq openCap openCap = true := Nat.beq_refl _
      simp only [e2, e3, h6]
      have e4 : Nat.ble (Nat.add 0 (Nat.mul (L.length + (m + 1)) s)) (L.flatMap enc).length = false := by
        rw [hfl]
        cases hbb : Nat.ble (Nat.add 0 (Nat.mul (L.length + (m + 1)) s)) (L.length * s) with
        | false => rfl
        | true =>
          have h7 : 0 + (L.length + (m + 1)) * s ≤ L.length * s := Nat.le_of_ble_eq_true hbb
          rw [Nat.add_mul, Nat.succ_mul] at h7
          omega
      have e5 : (M.flatMap enc).all oneC = true := by
        rw [List.all_flatMap]; simp only [List.all_eq_true]; intro x _; exact List.all_eq_true.1 (hone x)
      simp only [cellsO, Nat.beq_refl, e4, e5, Bool.and_self]
      have hh : Has (h.bl.get b) 0 (L.flatMap enc) := by rw [h6]; exact Has.all
      rw [firstB_has hh s L.length _ _ _ (hfl L).symm, setBlock_eq _ _ _ _ h5]
      have hF := fresh ⟨h.nx, h.bl.upd b (.dead (L.flatMap enc).length e), h.lo⟩ (L.flatMap enc ++ M.flatMap enc) (by simp) (hle.set h3 _) rfl rfl
      rw [hm] at hF
      exact hF
end
end Go.Vai

namespace Go.Vai
open Go
/-! ## small ones -/
theorem repeatL_1 (zs : List Value) : repeatL zs 1 = zs := by simp [repeatL]
theorem wantV_undef (w : Bool) : wantV undef w = false := by cases w <;> rfl
theorem slot_0 (a : Value) (l : List Value) : slot (a :: l) 0 = a := id rfl
theorem slot_s (a : Value) (l : List Value) (n : Nat) : slot (a :: l) (n + 1) = slot l n := id rfl
theorem cells_agg (l : List Value) : (Value.cells (.agg ⟨l⟩)).toList = l := id rfl
theorem cells_int (k : IntKind) (n : Int) : (Value.cells (.int k n)).toList = [.int k n] := id rfl
theorem cells_bool (b : Bool) : (Value.cells (.bool b)).toList = [.bool b] := id rfl
theorem cells_ptr (a : Option Addr) : (Value.cells (.pointer a)).toList = [.pointer a] := id rfl
theorem cells_slice (a : Option Addr) (n c : Nat) : (Value.cells (.slice a n c)).toList = [.slice a n c] := id rfl
theorem one_int (k : IntKind) (n : Int) : oneC (.int k n) = true := id rfl
theorem one_bool (b : Bool) : oneC (.bool b) = true := id rfl
theorem one_str (s : ByteArray) : oneC (.string s) = true := id rfl
theorem one_ptr (a : Option Addr) : oneC (.pointer a) = true := id rfl
theorem one_sli (a : Option Addr) (n c : Nat) : oneC (.slice a n c) = true := id rfl
theorem one_map (a : Option Nat) : oneC (.map a) = true := id rfl
theorem one_fun (f : Fn) (a b : Array Value) : oneC (.func f a b) = true := id rfl
theorem one_ifc (t : TypeId) (v : Value) : oneC (.iface t v) = true := id rfl
theorem over_all (vs ws : List Value) (h : ws.length = vs.length) : over vs 0 ws = ws := by simp [over, h]
variable {β : Type} {fl : β}
theorem overL_eq : ∀ (new old : List Value) (κ : List Value → β), new.length ≤ old.length → overL fl new old κ = κ (over old 0 new) := by
  intro new
  induction new with
  | nil => intro old κ _; rw [over_nil]; cases old <;> rfl
  | cons v new ih =>
    intro old κ h
    cases old with
    | nil => simp at h
    | cons o old =>
      simp only [overL]
      rw [ih old _ (by simpa using h)]
      simp [over]
theorem putL_eq (new : List Value) : ∀ (o : Nat) (old : List Value) (κ : List Value → β), o + new.length ≤ old.length → putL fl new o old κ = κ (over old o new) := by
  intro o
  induction o with
  | zero =>
    intro old κ h
    have : putL fl new 0 old κ = overL fl new old κ := by cases old <;> rfl
    rw [this, overL_eq _ _ _ (by simpa using h)]
  | succ o ih =>
    intro old κ h
    cases old with
    | nil => simp at h
    | cons v old =>
      simp only [putL]
      rw [ih old _ (by simp at h; omega)]
      simp [over, Nat.add_right_comm]
theorem fill_nil (cs : List Value) (κ : List Value → β) : fillB fl [] [] cs κ = κ cs := id rfl
theorem fill_cons (off size : Nat) (ps : List (Nat × Nat)) (v : Value) (vs cs : List Value) (κ : List Value → β) (h1 : v.cells.toList.length = size) (h2 : off + size ≤ cs.length) :
    fillB fl ((off, size) :: ps) (v :: vs) cs κ = fillB fl ps vs (over cs off v.cells.toList) κ := by
  subst h1
  show (match Nat.beq v.cells.toList.length v.cells.toList.length with | false => fl | true => putL fl v.cells.toList off cs fun cs => fillB fl ps vs cs κ) = _
  rw [Nat.beq_refl]
  simp only
  rw [putL_eq _ _ _ _ h2]
theorem fill_1 (size : Nat) (v : Value) (cs : List Value) (κ : List Value → β) (h1 : v.cells.toList.length = size) (h2 : cs.length = size) : fillB fl [(0, size)] [v] cs κ = κ v.cells.toList := by
  rw [fill_cons _ _ _ _ _ _ _ h1 (by omega), fill_nil, over_all _ _ (by omega)]
end Go.Vai

namespace Go.Vai
open Go
section
variable {β : Type} {fl : β} {P : Program} {h h' : Heap} {κ : Value → Heap → β} {a a' b b' c c' : Value}
@[congr] theorem binB_congr {op : BinOp} {t : TypeId} {cn gd : Bool} (ha : a = a') (hb : b = b') : binB fl P op t cn gd a b h κ = binB fl P op t cn gd a' b' h κ := by rw [ha, hb]
@[congr] theorem unB_congr {op : UnOp} (ha : a = a') : unB fl op a h κ = unB fl op a' h κ := by rw [ha]
@[congr] theorem convI_congr {k : IntKind} (ha : a = a') : convI fl k a h κ = convI fl k a' h κ := by rw [ha]
@[congr] theorem pickB_congr (hc : c = c') (ha : a = a') (hb : b = b') : pickB fl c a b h κ = pickB fl c' a' b' h κ := by rw [ha, hb, hc]
@[congr] theorem nilB_congr (ha : a = a') : nilB fl a h κ = nilB fl a' h κ := by rw [ha]
@[congr] theorem fieldAddrB_congr {o : Nat} (ha : a = a') : fieldAddrB fl o a h κ = fieldAddrB fl o a' h κ := by rw [ha]
@[congr] theorem indexAddrS_congr {s : Nat} (ha : a = a') (hb : b = b') : indexAddrS fl s a b h κ = indexAddrS fl s a' b' h κ := by rw [ha, hb]
@[congr] theorem indexAddrA_congr {n s : Nat} (ha : a = a') (hb : b = b') : indexAddrA fl n s a b h κ = indexAddrA fl n s a' b' h κ := by rw [ha, hb]
@[congr] theorem fieldB_congr {g : Bool} {s o : Nat} (ha : a = a') : fieldB fl g s o a h κ = fieldB fl g s o a' h κ := by rw [ha]
@[congr] theorem indexB_congr {g : Bool} {n s : Nat} (ha : a = a') (hb : b = b') : indexB fl g n s a b h κ = indexB fl g n s a' b' h κ := by rw [ha, hb]
@[congr] theorem indexS_congr (ha : a = a') (hb : b = b') : indexS fl a b h κ = indexS fl a' b' h κ := by rw [ha, hb]
@[congr] theorem extractB_congr {i : Nat} (ha : a = a') : extractB fl i a h κ = extractB fl i a' h κ := by rw [ha]
@[congr] theorem load1_congr (ha : a = a') : load1 fl a h κ = load1 fl a' h κ := by rw [ha]
@[congr] theorem loadA_congr {s : Nat} (ha : a = a') : loadA fl s a h κ = loadA fl s a' h κ := by rw [ha]
@[congr] theorem storeV_congr {s : Nat} (ha : a = a') (hb : b = b') : storeV fl s a b h κ = storeV fl s a' b' h κ := by rw [ha, hb]
@[congr] theorem ldO_congr {o o' : Option AObj} {i : Nat} {k : Value → β} (ho : o = o') : ldO fl o i k = ldO fl o' i k := by rw [ho]
@[congr] theorem ldA_congr {o o' : Option AObj} {i s : Nat} {k : List Value → β} (ho : o = o') : ldA fl o i s k = ldA fl o' i s k := by rw [ho]
@[congr] theorem stO_congr {o o' : Option AObj} {s i j : Nat} {ws ws' : List Value} {k : Heap → β} (ho : o = o') (hw : ws = ws') (hh : h = h') : stO fl o s i j ws h k = stO fl o' s i j ws' h' k := by rw [ho, hw, hh]
@[congr] theorem optK_congr {o o' : Option Value} {k : Value → β} (ho : o = o') : optK fl o k = optK fl o' k := by rw [ho]
@[congr] theorem newBlock_congr {o : AObj} {k : Nat → Heap → β} (hh : h = h') : newBlock fl o h k = newBlock fl o h' k := by rw [hh]
@[congr] theorem setBlock_congr {i : Nat} {o : AObj} {k : Heap → β} (hh : h = h') : setBlock fl i o h k = setBlock fl i o h' k := by rw [hh]
@[congr] theorem cellsK_congr {ws ws' : List Value} {e : TypeId} {g : Bool} {k : AObj → β} (hw : ws = ws') : cellsK fl ws e g k = cellsK fl ws' e g k := by rw [hw]
@[congr] theorem newCells_congr {ws ws' : List Value} {e : TypeId} {g : Bool} {k : Nat → Heap → β} (hw : ws = ws') (hh : h = h') : newCells fl ws e g h k = newCells fl ws' e g h' k := by rw [hw, hh]
@[congr] theorem fillB_congr {ps : List (Nat × Nat)} {vs vs' cs cs' : List Value} {k : List Value → β} (hv : vs = vs') (hc : cs = cs') : fillB fl ps vs cs k = fillB fl ps vs' cs' k := by rw [hv, hc]
@[congr] theorem sliceB_congr {e s : Nat} {l u m l' u' m' : Option Value} (ha : a = a') (hl : l = l') (hu : u = u') (hm : m = m') : sliceB fl e s a l u m h κ = sliceB fl e s a' l' u' m' h κ := by rw [ha, hl, hu, hm]
@[congr] theorem sliceS_congr {l u m l' u' m' : Option Value} (ha : a = a') (hl : l = l') (hu : u = u') (hm : m = m') : sliceS fl a l u m h κ = sliceS fl a' l' u' m' h κ := by rw [ha, hl, hu, hm]
@[congr] theorem appendB_congr {both : β → β → β} {e s : Nat} {z : List Value} {g : Bool} (ha : a = a') (hb : b = b') (hh : h = h') : appendB fl both e s z g a b h κ = appendB fl both e s z g a' b' h' κ := by rw [ha, hb, hh]
@[congr] theorem copyB_congr {s : Nat} (ha : a = a') (hb : b = b') : copyB fl s a b h κ = copyB fl s a' b' h κ := by rw [ha, hb]
@[congr] theorem clearB_congr {z : List Value} (ha : a = a') : clearB fl z a h κ = clearB fl z a' h κ := by rw [ha]
@[congr] theorem lenSli_congr (ha : a = a') : lenSli fl a h κ = lenSli fl a' h κ := by rw [ha]
@[congr] theorem lenStr_congr (ha : a = a') : lenStr fl a h κ = lenStr fl a' h κ := by rw [ha]
@[congr] theorem lenMap_congr (ha : a = a') : lenMap fl a h κ = lenMap fl a' h κ := by rw [ha]
@[congr] theorem lookupB_congr {t : TypeId} {z : Value} {g : Bool} (ha : a = a') (hb : b = b') : lookupB fl P t z g a b h κ = lookupB fl P t z g a' b' h κ := by rw [ha, hb]
@[congr] theorem mapUpdateB_congr {t : TypeId} (ha : a = a') (hb : b = b') (hc : c = c') : mapUpdateB fl P t a b c h κ = mapUpdateB fl P t a' b' c' h κ := by rw [ha, hb, hc]
@[congr] theorem deleteB_congr {t : TypeId} (ha : a = a') (hb : b = b') : deleteB fl P t a b h κ = deleteB fl P t a' b' h κ := by rw [ha, hb]
@[congr] theorem rangeB_congr (ha : a = a') : rangeB fl a h κ = rangeB fl a' h κ := by rw [ha]
@[congr] theorem nextB_congr {f : β → β → β} (ha : a = a') : nextB fl f a h κ = nextB fl f a' h κ := by rw [ha]
@[congr] theorem entryB_congr (ha : a = a') : entryB fl a h κ = entryB fl a' h κ := by rw [ha]
@[congr] theorem typeAssertB_congr {t : TypeId} {z : Value} {g : Bool} (ha : a = a') : typeAssertB fl t z g a h κ = typeAssertB fl t z g a' h κ := by rw [ha]
@[congr] theorem minB_congr (ha : a = a') (hb : b = b') : minB fl a b h κ = minB fl a' b' h κ := by rw [ha, hb]
@[congr] theorem maxB_congr (ha : a = a') (hb : b = b') : maxB fl a b h κ = maxB fl a' b' h κ := by rw [ha, hb]
end
section
variable {P : Program} {h h' : Heap} {κ : Value → Heap → Prop}
@[congr] theorem RdK_congr {o o' : Option Value} (ho : o = o') : RdK o h κ = RdK o' h κ := by rw [ho]
@[congr] theorem AlK_congr {o o' : Option (AObj × (Nat → Value))} (ho : o = o') : AlK o h κ = AlK o' h κ := by rw [ho]
@[congr] theorem GuardW_congr {b b' : Bool} {f : (Value → Heap → Prop) → Prop} (hb : b = b') : GuardW b f h κ = GuardW b' f h κ := by rw [hb]
@[congr] theorem SameK_congr {b b' : Bool} {p : Prop} (hb : b = b') : SameK b p = SameK b' p := by rw [hb]
@[congr] theorem CondW_congr {v v' : Value} {A B : Prop} (hv : v = v') : CondW v A B = CondW v' A B := by rw [hv]
@[congr] theorem JoinR_congr {A : (List Value → Heap → Prop) → Prop} {B : List Value → Heap → Prop} : JoinR A B = JoinR A B := rfl
@[congr] theorem LoopR_congr {l l' : List Value} {body : List Value → Heap → (List Value → Heap → Prop) → Prop} (hh : h = h') : LoopR l h body = LoopR l h' body := by rw [hh]
@[congr] theorem CallW_congr {f : FuncId} {l l' : List Value} (hl : l = l') (hh : h = h') : CallW P f l h κ = CallW P f l' h' κ := by rw [hl, hh]
@[congr] theorem CallV_congr {v v' : Value} {l l' : List Value} (hv : v = v') (hl : l = l') (hh : h = h') : CallV P v l h κ = CallV P v' l' h' κ := by rw [hv, hl, hh]
@[congr] theorem CallI_congr {n : String} {v v' : Value} {l l' : List Value} (hv : v = v') (hl : l = l') (hh : h = h') : CallI P n v l h κ = CallI P n v' l' h' κ := by rw [hv, hl, hh]
end
end Go.Vai

namespace Go.Vai
open Go Go.RowKit Go.WideShapes Go.ChangeShapes
variable {P : Program}

/-- what lay before lies as it lay: of the whole call -/
theorem below_ro {φ φ' : Emb} {h h' : Heap} {w w' : World} (hx : Ext φ φ' h h' w w') (hro : ∀ b pl, φ b = some pl → b < h.lo ∧ ∃ o, h.bl.get b = some o ∧ o.live) : Below w.heap.size w w' := by
  refine ⟨hx.os, hx.tape, hx.output, hx.size, fun B hB => ?_⟩
  by_cases he : ∃ b pl, φ b = some pl ∧ pl.B = B
  · obtain ⟨b, pl, h1, rfl⟩ := he
    obtain ⟨h2, o, h3, h4⟩ := hro b pl h1
    exact hx.frW b o pl h2 h3 h4 h1 hB
  · exact hx.frC B hB fun b pl h1 h2 => he ⟨b, pl, h1, h2⟩

theorem lawEndB {f : FuncId} {args args' : List Value} {φ : Emb} {h : Heap} {w : World} (hc : CallW P f args h IsTrue) (ha : F2 (VR φ) args args') (hr : HR P φ h w) (hro : ∀ b pl, φ b = some pl → b < h.lo ∧ ∃ o, h.bl.get b = some o ∧ o.live) :
    Calls P f args'.toArray w fun e w' => e = .returned (.bool true) ∧ Below w.heap.size w w' := by
  refine Calls.mono (hc φ w args' ha hr).2 ?_
  rintro e w' ⟨φ', v, v', h', rfl, g1, g2, g3, g4⟩
  have g1 : v = .bool true := g1
  subst g1
  cases g2
  exact ⟨rfl, below_ro g4 hro⟩

/-! ## one slice that came in -/
section
variable {α : Type} {encA : α → List Value} {s : Nat}
/-- where a slice that came in lies -/
def ArgIs (encA : α → List Value) (w : World) (v : Value) (L : List α) : Prop :=
  (L = [] ∧ (v = .slice none 0 0 ∨ ∃ a cap, v = .slice (some a) 0 cap)) ∨
  ∃ B o cap C e fz, v = .slice (some ⟨B, o, none⟩) L.length cap ∧ L.length ≤ cap ∧ cap ≤ maxLen ∧ w.heap[B]? = some (.cells C e fz) ∧ o + (L.flatMap encA).length ≤ C.size ∧ ∀ j u, (L.flatMap encA)[j]? = some u → C[o + j]? = some u

theorem choose_list {n : Nat} {p : Nat → α → Prop} (h : ∀ i, i < n → ∃ x, p i x) : ∃ L : List α, L.length = n ∧ ∀ i a, L[i]? = some a → p i a := by
  induction n with
  | zero => exact ⟨[], rfl, fun i a e => by simp at e⟩
  | succ n ih =>
    obtain ⟨L, h1, h2⟩ := ih fun i hi => h i (Nat.lt_succ_of_lt hi)
    obtain ⟨a, ha⟩ := h n (Nat.lt_succ_self n)
    refine ⟨L ++ [a], by simp [h1], fun i b e => ?_⟩
    rcases Nat.lt_or_ge i n with hi | hi
    · rw [List.getElem?_append_left (by omega)] at e; exact h2 i b e
    · have : i = n := by
        have := (List.getElem?_eq_some_iff.1 e).1
        simp [h1] at this; omega
      subst this
      rw [List.getElem?_append_right (by omega), h1] at e
      simp at e; subst e; exact ha

theorem flat_getElem (he : ∀ a : α, (encA a).length = s) (hs : 0 < s) : ∀ (L : List α) (j : Nat) (u : Value), (L.flatMap encA)[j]? = some u → ∃ a, L[j / s]? = some a ∧ (encA a)[j % s]? = some u := by
  intro L
  induction L with
  | nil => intro j u e; simp at e
  | cons a L ih =>
    intro j u e
    simp only [List.flatMap_cons] at e
    rcases Nat.lt_or_ge j s with hj | hj
    · rw [List.getElem?_append_left (by rw [he]; exact hj)] at e
      rw [Nat.div_eq_of_lt hj, Nat.mod_eq_of_lt hj]
      exact ⟨a, rfl, e⟩
    · rw [List.getElem?_append_right (by rw [he]; exact hj), he] at e
      obtain ⟨b, h1, h2⟩ := ih (j - s) u e
      refine ⟨b, ?_, ?_⟩
      · rw [Nat.div_eq_sub_div hs hj]; simpa using h1
      · rw [Nat.mod_eq_sub_mod hj]; exact h2

theorem open_arg {H : Type} {enc : TypeId × Value → H} {w : World} {t e : TypeId} {fuel : Nat} {v : Value} {x : DataW H × List MemPlace} (he : ∀ a : α, (encA a).length = s) (hs : 0 < s) (ht : P.underlying t = some (.slice e)) (hc : P.cellsOf e = s)
    (hdec : ∀ (n : Nat) (cs : List Value) (d : DataW H × List MemPlace), cs.length = s → DataW.trod enc P w 0 (fun _ => true) true n e cs = some d → ∃ a : α, cs = encA a)
    (h : DataW.trod enc P w 0 (fun _ => true) true fuel t [v] = some x) : ∃ L : List α, ArgIs encA w v L := by
  rcases Go.Deep.open_slice ht h with ⟨h1, _⟩ | ⟨a, len, cap, m, n, D, Pl, h1, hb, hl, hm, hmm, hx, hi⟩
  · cases h1; exact ⟨[], .inl ⟨rfl, .inl rfl⟩⟩
  · cases h1
    simp only [if_true] at hmm
    subst hmm
    by_cases hlen : len = 0
    · subst hlen; exact ⟨[], .inl ⟨rfl, .inr ⟨a, _, rfl⟩⟩⟩
    · have hel : ∀ i, i < len → ∃ p : α, ∀ j u, (encA p)[j]? = some u → w.cell? (a.add (i * s + j)) = some u := by
        intro i hil
        obtain ⟨cs, h2, h3⟩ := hi i (by omega)
        rw [hc] at h2
        obtain ⟨_, h4, h5⟩ := World.cells?_some h2
        obtain ⟨p, rfl⟩ := hdec n cs _ h4 h3
        refine ⟨p, fun j u hj => ?_⟩
        have hjs : j < s := by have := (List.getElem?_eq_some_iff.1 hj).1; rwa [he] at this
        have := h5 j hjs
        rw [Go.Deep.add_add] at this
        rw [this, hj]
      obtain ⟨L, hL, hp⟩ := choose_list hel
      have hcell : ∀ j u, (L.flatMap encA)[j]? = some u → w.cell? (a.add j) = some u := by
        intro j u hj
        obtain ⟨p, g1, g2⟩ := flat_getElem he hs L j u hj
        have := hp _ p g1 _ u g2
        rwa [Nat.mul_comm, Nat.div_add_mod] at this
      have hfl := flat_length (enc := encA) he L
      have hpos : 0 < (L.flatMap encA).length := by rw [hfl, hL]; exact Nat.mul_pos (by omega) hs
      have h0 := hcell 0 _ (List.getElem?_eq_getElem hpos)
      have ha0 : a.add 0 = a := by simp [Addr.add]
      rw [ha0] at h0
      obtain ⟨B, o, sp⟩ := a
      unfold World.cell? at h0
      split at h0 <;> try contradiction
      rename_i C e' fz hC
      cases sp with
      | some q => simp at h0
      | none =>
        refine ⟨L, .inr ⟨B, o, m, C, e', fz, by rw [hL], by omega, hm, hC, ?_, ?_⟩⟩
        · have hlast := hcell ((L.flatMap encA).length - 1) _ (List.getElem?_eq_getElem (by omega))
          have hadd : (⟨B, o, none⟩ : Addr).add ((L.flatMap encA).length - 1) = ⟨B, o + ((L.flatMap encA).length - 1), none⟩ := by unfold Addr.add; split <;> simp_all
          rw [hadd] at hlast
          simp only [World.cell?, hC] at hlast
          have := (Array.getElem?_eq_some_iff.1 hlast).1
          omega
        · intro j u hj
          have hx := hcell j u hj
          have hadd : (⟨B, o, none⟩ : Addr).add j = ⟨B, o + j, none⟩ := by unfold Addr.add; split <;> simp_all
          rw [hadd] at hx
          simpa [World.cell?, hC] using hx

/-- a heap of one block that came in -/
noncomputable def heap1 (o : AObj) : Heap := ⟨1, T.nil.upd 0 o, 1⟩
def emb1 (B : Nat) : Emb := fun b => if b = 0 then some ⟨B, 0, 0⟩ else none
def heap0 : Heap := ⟨0, .nil, 0⟩
def emb0 : Emb := fun _ => none

theorem hr_heap0 (w : World) : HR P emb0 heap0 w := HR.start w
theorem hr_heap1 {w : World} {B o : Nat} {C : Array Value} {e : TypeId} {fz : Nat × Nat} {vs : List Value} (hC : w.heap[B]? = some (.cells C e fz)) (hle : o + vs.length ≤ C.size) (hv : ∀ j u, vs[j]? = some u → C[o + j]? = some u) (hsc : vs.all scal1 = true) :
    HR P (emb1 B) (heap1 (.ro (o + vs.length) (lay vs .nil o) e)) w := by
  have hB : B < w.heap.size := by have := (Array.getElem?_eq_some_iff.1 hC).1; exact this
  refine ⟨?_, ?_, ?_, Nat.lt_succ_self _, ?_, Nat.le_refl _⟩
  · intro b ob pl h1 h2
    unfold emb1 at h2
    split at h2
    · rename_i h0; subst h0; cases h2
      have : ob = .ro (o + vs.length) (lay vs .nil o) e := by
        have h3 : (T.nil.upd 0 (AObj.ro (o + vs.length) (lay vs .nil o) e)).get 0 = some ob := h1
        rw [T.get_upd_same] at h3; cases h3; rfl
      subst this
      rw [hC]
      refine ⟨rfl, hle, fun i u hg hi => ?_⟩
      rw [get_lay'] at hg
      split at hg
      · rename_i hh
        refine ⟨u, ?_, ?_⟩
        · have := hv _ u hg; rwa [show o + (i - o) = i by omega] at this
        · exact VR.scal (List.all_eq_true.1 hsc u (List.mem_of_getElem? hg))
      · rw [T.get_nil] at hg; cases hg
    · cases h2
  · intro b pl h2
    unfold emb1 at h2
    split at h2
    · rename_i h0; subst h0; cases h2; exact ⟨by show 0 < 1; omega, hB⟩
    · cases h2
  · intro b ob _ h1
    show b < 1
    by_cases h0 : 0 = b
    · omega
    · have : (T.nil.upd 0 (AObj.ro (o + vs.length) (lay vs .nil o) e)).get b = some ob := h1
      rw [T.get_updne _ _ h0, T.get_nil] at this; cases this
  · intro b b' o1 o2 pl pl' _ _ _ _ h1 h2 _
    unfold emb1 at h1 h2
    split at h1 <;> split at h2 <;> first | omega | (cases h1; done) | (cases h2; done)

theorem ro_heap1 {B : Nat} {n : Nat} {c : T Value} {e : TypeId} : ∀ b pl, emb1 B b = some pl → b < (heap1 (.ro n c e)).lo ∧ ∃ o, (heap1 (.ro n c e)).bl.get b = some o ∧ o.live := by
  intro b pl h
  unfold emb1 at h
  split at h
  · rename_i h0; subst h0
    exact ⟨by show 0 < 1; omega, _, T.get_upd_same _ _ _, trivial⟩
  · cases h

theorem has_ro (o : Nat) (vs : List Value) (e : TypeId) : Has (some (.ro (o + vs.length) (lay vs .nil o) e)) o vs :=
  ⟨_, _, e, .inl rfl, Nat.le_refl _, fun j v hj => by
    rw [get_lay']
    have := (List.getElem?_eq_some_iff.1 hj).1
    rw [if_pos ⟨by omega, by omega⟩, show o + j - o = j by omega]; exact hj⟩

/-- a law of a slice that came in, and scalars ahead of it and behind -/
theorem law_slice {f : FuncId} {pre post : List Value} {v : Value} {L : List α} {w : World} (hpre : pre.all scal = true) (hpost : post.all scal = true) (hone : ∀ a : α, (encA a).all scal1 = true) (hv : ArgIs encA w v L)
    (hc : ∀ (h : Heap) (u : Value), Sl encA h u L → h.lo ≤ h.nx → CallW P f (pre ++ [u] ++ post) h IsTrue) :
    Calls P f (pre ++ [v] ++ post).toArray w fun e w' => e = .returned (.bool true) ∧ Below w.heap.size w w' := by
  have args : ∀ {φ : Emb} {u : Value}, VR φ u v → F2 (VR φ) (pre ++ [u] ++ post) (pre ++ [v] ++ post) := fun hu => ((scals_VR hpre).append (.cons hu .nil)).append (scals_VR hpost)
  have none_ro : ∀ b pl, emb0 b = some pl → b < heap0.lo ∧ ∃ o, heap0.bl.get b = some o ∧ o.live := fun b pl h => by cases h
  rcases hv with ⟨rfl, rfl | ⟨a, cap, rfl⟩⟩ | ⟨B, o, cap, C, e, fz, rfl, hl, hm, hC, hle, hcell⟩
  · exact lawEndB (hc heap0 _ (Sl.nil _ _ _) (Nat.le_refl _)) (args (VR.sliceNil (Nat.le_refl _))) (hr_heap0 w) none_ro
  · exact lawEndB (hc heap0 _ (Sl.nil _ (some a) anyCap) (Nat.le_refl _)) (args (VR.sliceAny a a cap)) (hr_heap0 w) none_ro
  · have hsc : (L.flatMap encA).all scal1 = true := by
      rw [List.all_flatMap]; simp only [List.all_eq_true]; intro x _; exact List.all_eq_true.1 (hone x)
    refine lawEndB (φ := emb1 B) (hc (heap1 (.ro (o + (L.flatMap encA).length) (lay (L.flatMap encA) .nil o) e)) (.slice (some ⟨0, o, none⟩) L.length cap) ⟨_, cap, rfl, fun _ => ⟨0, o, rfl, by show 0 < 1; omega, ?_⟩⟩ (by show 1 ≤ 1; omega)) (args ?_) (hr_heap1 hC hle hcell hsc) ro_heap1
    · show Has ((T.nil.upd 0 _).get 0) o _
      rw [T.get_upd_same]; exact has_ro _ _ _
    · have hpl : emb1 B 0 = some ⟨B, 0, 0⟩ := rfl
      exact VR.slice hpl hl (by unfold maxLen at hm; unfold openCap; omega)
end

/-! ## the row's end -/
section
variable {H : Type} {enc : TypeId × Value → H}
theorem post_of_law {f : Func} {s : ChangeSpec} {apart fresh handsOn again : Bool} {W W' : World} {args : Array Value} {v : Value} {ds gs : List (DataW H)} {before pa pv : List MemPlace}
    (hW : DataW.Whole enc P f.params.toList s.vars apart W args.toList ds gs before)
    (hres : ∀ (b : Nat) (sp : Nat → Bool) (hd : Bool), DataW.TrodAll enc P W' b sp hd f.resultTypes.toList (v.resultList f.resultTypes.size) (s.fn H (ds ++ gs)).results [])
    (hargs : ∀ sp : Nat → Bool, (∀ p ∈ before, sp p.block = true) → DataW.TrodAll enc P W' 0 sp true f.params.toList args.toList (s.fn H (ds ++ gs)).args pa)
    (hvars : ∀ sp : Nat → Bool, (∀ p ∈ before, sp p.block = true) → DataW.TrodVars enc P W' sp s.vars (s.fn H (ds ++ gs)).vars pv)
    (hps : before = pa ++ pv) (hb : Below W.heap.size W W')
    (hok : ∀ (j : Nat) (t : TypeId) (r : Value), f.resultTypes[j]? = some t → (v.resultList f.resultTypes.size)[j]? = some r → Value.okWide P W' .any 0 t r) :
    s.post enc P f apart fresh handsOn again W args v W' := by
  have hlt : ∀ p ∈ before, p.block < W.heap.size := fun p hp => hW.lt p hp
  have hold : ∀ p ∈ before, (fun b => decide (b < W.heap.size)) p.block = true := fun p hp => by simpa using hlt p hp
  refine ⟨ds, gs, before, [], pa, pv, hW, hres _ _ _, hargs _ hold, hvars _ hold, World.keptBut_mono (fun p hp => ⟨hp, ?_⟩) (hb.frame (· ∈ before)), fun _ => ?_⟩
  · rw [hps, List.mem_append] at hp
    exact Or.inr hp
  · obtain ⟨_, _, _, _, _, hz, hn⟩ := hW
    refine ⟨hok, _, _, ([] ++ pa) ++ pv, ⟨[] ++ pa, pv, trodAll_append (hargs _ (fun _ _ => rfl)) (hres _ _ _), hvars _ (fun _ _ => rfl), rfl, ?_, ?_⟩, ?_⟩
    · intro b off hp
      have hin : MemPlace.cell b off ∈ before := by rw [hps]; simpa using hp
      rw [hb.frozen (hlt _ hin)]
      exact hz b off hin
    · intro ha
      have := hn ha
      rw [hps] at this
      simpa using this
    · intro p hp _
      rw [hps]
      simpa using hp
/-- an argument reads as it read -/
theorem arg_stays {t : TypeId} (hl : laidOutB P = true) (hr : P.readableRec t = true) (hrow : t < P.types.size) {W W' : World} {v : Value} {d : DataW H} {ps : List MemPlace}
    (h : DataW.Trod enc P W 0 (fun _ => true) true t v d ps) (hb : Below W.heap.size W W') (hlt : ∀ x ∈ ps, x.block < W.heap.size) {sp : Nat → Bool} (hsp : ∀ x ∈ ps, sp x.block = true) :
    DataW.Trod enc P W' 0 sp true t v d ps :=
  WideElems.Trod_stays hl hr hrow h (fun x hx => hb.same (hlt x hx)) (fun x hx => by simpa using hsp x hx)
end
end Go.Vai

namespace Go.Vai
open Go Go.RowKit
variable {P : Program}
/-- a call of scalars that comes to a scalar, on a heap of nothing: so on whatever heap, which stays -/
theorem pureW {f : FuncId} {args : List Value} {v : Value} (ha : args.all scal = true) (hv : scal v = true) (hc : CallW P f args heap0 fun u _ => u = v) {h : Heap} {κ : Value → Heap → Prop} (hk : κ v h) : CallW P f args h κ := by
  intro φ w args' hf hr
  have := of_scals ha hf
  subst this
  obtain ⟨c1, c2⟩ := hc emb0 w args' (scals_VR ha) (hr_heap0 w)
  refine ⟨c1, c2.mono ?_⟩
  rintro e w' ⟨φ', v1, v', h', rfl, rfl, g2, g3, g4⟩
  have hfr : ∀ B, B < w.heap.size → w'.heap[B]? = w.heap[B]? := fun B hB => g4.frC B hB fun b pl e => by cases e
  refine ⟨φ, v1, v', h, rfl, hk, by rw [of_scal_VR hv g2]; exact scal_VR hv, ?_, ?_⟩
  · exact ⟨fun b o pl h1 h2 => by rw [hfr _ (hr.dom b pl h2).2]; exact hr.obj b o pl h1 h2, fun b pl h1 => ⟨(hr.dom b pl h1).1, Nat.lt_of_lt_of_le (hr.dom b pl h1).2 g4.size⟩, hr.keys, hr.nxs, hr.inj, hr.lo⟩
  · exact ⟨Sub.refl φ, fun b pl e e' => (by rw [e] at e'; cases e'), Nat.le_refl _, g4.size, fun B hB _ => hfr B hB, fun _ _ _ => rfl, g4.tape, g4.os, g4.output, fun _ _ => trivial, rfl, fun _ _ => rfl, fun b o pl _ _ _ _ hB => hfr _ hB, g4.dr⟩

theorem reV_some (u v : Value) : reV (some u) v = veq 8 u v := id rfl
theorem repeatL_0 (zs : List Value) : repeatL zs 0 = [] := id rfl
theorem repeatL_2 (a : Value) : repeatL [a] 2 = [a, a] := by simp [repeatL]
theorem over_1_1 (a b c : Value) : over [a, b] 0 [c] = [c, b] := by simp [over]
theorem over_1_2 (a b c : Value) : over [a, b] 1 [c] = [a, c] := by simp [over]
theorem over_s (a : Value) (l : List Value) (n : Nat) (ws : List Value) : over (a :: l) (n + 1) ws = a :: over l n ws := by simp [over, Nat.add_right_comm]
theorem over_0 (a w : Value) (l ws : List Value) : over (a :: l) 0 (w :: ws) = w :: over l 0 ws := by simp [over]
theorem over_e (l : List Value) : over l 0 [] = l := by simp [over]
theorem reN_some (u : Value) : reN (some u) = true := id rfl
theorem reG_true (r : Bool) : reG true r = r := id rfl
theorem reG_false (r : Bool) : reG false r = true := id rfl
theorem beq_self_t (n : Nat) : Nat.beq n n = true := Nat.beq_refl n
theorem ieqB_self (n : Int) : ieqB n n = true := by rw [ieqB_eq]; simp
theorem kindEq_self (k : IntKind) : kindEq k k = true := by rw [kindEq_eq]; simp
theorem veqI (n : Nat) (k : IntKind) (a : Int) : veq (n + 1) (.int k a) (.int k a) = true := by unfold veq; simp [kindEq_self, ieqB_self]
theorem veq_int (k : IntKind) (a : Int) : veq 8 (.int k a) (.int k a) = true := veqI 7 k a
theorem veq_bool (a : Bool) : veq 8 (.bool a) (.bool a) = true := by unfold veq; simp
theorem veq_ptr (b o : Nat) : veq 8 (.pointer (some ⟨b, o, none⟩)) (.pointer (some ⟨b, o, none⟩)) = true := by unfold veq; simp [beq_self_t]
theorem veq_sli (b o n c : Nat) : veq 8 (.slice (some ⟨b, o, none⟩) n c) (.slice (some ⟨b, o, none⟩) n c) = true := by unfold veq; simp [beq_self_t]
theorem veq_sln (n c : Nat) : veq 8 (.slice none n c) (.slice none n c) = true := by unfold veq; simp [beq_self_t]
theorem veqL_ints (n : Nat) (l : List Int) : veqL (veq (n + 1)) (l.map (Value.int .i64)) (l.map (Value.int .i64)) = true := by
  induction l with
  | nil => rfl
  | cons a l ih => simp only [List.map_cons, veqL, veqI, ih, Bool.and_self]
theorem veq_ints (l : List Int) : veq 8 (.agg ⟨l.map (.int .i64)⟩) (.agg ⟨l.map (.int .i64)⟩) = true := by
  unfold veq; exact veqL_ints 6 l
theorem veq_2 (a b : Int) : veq 8 (.agg ⟨[.int .i64 a, .int .i64 b]⟩) (.agg ⟨[.int .i64 a, .int .i64 b]⟩) = true := veq_ints [a, b]
theorem veq_4 (a b c d : Int) : veq 8 (.agg ⟨[.int .i64 a, .int .i64 b, .int .i64 c, .int .i64 d]⟩) (.agg ⟨[.int .i64 a, .int .i64 b, .int .i64 c, .int .i64 d]⟩) = true := veq_ints [a, b, c, d]
end Go.Vai

namespace Go.Vai
open Go
variable {β : Type} {fl : β}
/-! ## parts of a slice whose block is open -/
theorem numK_nat (n : Nat) (d : Nat) (κ : Nat → β) : numK fl (some (.int .i64 (n : Int))) d κ = κ n := id rfl
theorem numK_none (d : Nat) (κ : Nat → β) : numK fl none d κ = κ d := id rfl
/-- from an index on: of an open slice whose block is full -/
theorem slice_from {h : Heap} {e s b n i : Nat} {vs : List Value} (hs : 0 < s) (hb : h.bl.get b = some (cellsO vs e true)) (hvs : vs.length = n * s) (hi : i < n) (κ : Value → Heap → β) :
    sliceB fl e s (.slice (some ⟨b, 0, none⟩) n openCap) (some (.int .i64 (i : Int))) none none h κ = κ (.slice (some ⟨b, i * s, none⟩) (n - i) openCap) h := by
  obtain ⟨s, rfl⟩ : ∃ k, s = k + 1 := ⟨s - 1, by omega⟩
  have hk : knownOf h e b = some (n * (s + 1)) := by unfold knownOf; rw [hb]; simp only [cellsO, beq_self_t, hvs]
  have hd : Nat.div (Nat.sub (n * (s + 1)) 0) (s + 1) = n := by show (n * (s + 1) - 0) / (s + 1) = n; rw [Nat.sub_zero, Nat.mul_div_cancel _ (by omega)]
  have e1 : Nat.beq openCap anyCap = false := by decide
  have e2 : Nat.beq openCap openCap = true := Nat.beq_refl _
  have e3 : Nat.ble 0 (n * (s + 1)) = true := Nat.ble_eq_true_of_le (Nat.zero_le _)
  have e4 : Nat.ble i n = true := Nat.ble_eq_true_of_le (by omega)
  have e5 : Nat.ble n n = true := Nat.ble_eq_true_of_le (Nat.le_refl _)
  have e6 : Nat.beq i n = false := by
    cases hq : Nat.beq i n with
    | false => rfl
    | true => have := beq_t hq; omega
  unfold sliceB boundsB
  simp only [e1, e2, hk, e3, hd, numK_nat, numK_none, e4, e5, e6, fnK_eq]
  show κ (.slice (some ⟨b, 0 + i * (s + 1), none⟩) (n - i) openCap) h = _
  rw [Nat.zero_add]
/-- up to an index -/
theorem slice_to {h : Heap} {e s b n m i : Nat} {vs : List Value} (hs : 0 < s) (hb : h.bl.get b = some (cellsO vs e true)) (hvs : vs.length = n * s) (hn : 0 < n) (hi : i ≤ n) (κ : Value → Heap → β) :
    sliceB fl e s (.slice (some ⟨b, 0, none⟩) m openCap) none (some (.int .i64 (i : Int))) none h κ = κ (.slice (some ⟨b, 0, none⟩) i openCap) h := by
  obtain ⟨s, rfl⟩ : ∃ k, s = k + 1 := ⟨s - 1, by omega⟩
  have hk : knownOf h e b = some (n * (s + 1)) := by unfold knownOf; rw [hb]; simp only [cellsO, beq_self_t, hvs]
  have hd : Nat.div (Nat.sub (n * (s + 1)) 0) (s + 1) = n := by show (n * (s + 1) - 0) / (s + 1) = n; rw [Nat.sub_zero, Nat.mul_div_cancel _ (by omega)]
  have e1 : Nat.beq openCap anyCap = false := by decide
  have e2 : Nat.beq openCap openCap = true := Nat.beq_refl _
  have e3 : Nat.ble 0 (n * (s + 1)) = true := Nat.ble_eq_true_of_le (Nat.zero_le _)
  have e4 : Nat.ble 0 i = true := Nat.ble_eq_true_of_le (Nat.zero_le _)
  have e5 : Nat.ble i n = true := Nat.ble_eq_true_of_le hi
  have e6 : Nat.beq 0 n = false := by
    cases hq : Nat.beq 0 n with
    | false => rfl
    | true => have := beq_t hq; omega
  unfold sliceB boundsB
  simp only [e1, e2, hk, e3, hd, numK_nat, numK_none, e4, e5, e6, fnK_eq]
  show κ (.slice (some ⟨b, 0 + 0 * (s + 1), none⟩) (i - 0) openCap) h = _
  rw [Nat.zero_mul, Nat.sub_zero]
theorem clear_cells {h : Heap} {b o n c e : Nat} {op : Bool} {vs zero : List Value} (hb : h.bl.get b = some (cellsO vs e op)) (hn : 0 < n) (hl : o + (repeatL zero n).length ≤ vs.length) (h1 : (repeatL zero n).all oneC = true) (hlo : h.lo ≤ b) (κ : Value → Heap → β) :
    clearB fl zero (.slice (some ⟨b, o, none⟩) n c) h κ = κ (.tuple #[]) ⟨h.nx, h.bl.upd b (cellsO (over vs o (repeatL zero n)) e op), h.lo⟩ := by
  obtain ⟨n, rfl⟩ : ∃ k, n = k + 1 := ⟨n - 1, by omega⟩
  unfold clearB
  simp only [hb, cellsO]
  rw [storeN_eq _ _ _ _ _ hl h1, setBlock_eq _ _ _ _ hlo, lay_lay _ _ _ hl, over_length hl]
end Go.Vai

namespace Go.Vai
open Go Go.RowKit Go.WideShapes Go.ChangeShapes
section
variable {P : Program} {α : Type} {encA : α → List Value} {s : Nat} {H : Type} {enc : TypeId × Value → H}
theorem open_sliceArg {W : World} {t e : TypeId} {v : Value} {d : DataW H} {p : List MemPlace} {base : Nat} (he : ∀ a : α, (encA a).length = s) (hs : 0 < s) (ht : P.underlying t = some (.slice e)) (hc : P.cellsOf e = s)
    (hdec : ∀ (n : Nat) (cs : List Value) (d : DataW H × List MemPlace), cs.length = s → DataW.trod enc P W 0 (fun _ => true) true n e cs = some d → ∃ a : α, cs = encA a)
    (hw : Value.okWide P W .any base t v) (h : DataW.Trod enc P W 0 (fun _ => true) true t v d p) : ∃ L : List α, ArgIs encA W v L := by
  obtain ⟨fuel, hf⟩ := h
  have hcs : v.cells.toList = [v] := by
    unfold Value.okWide at hw
    rw [ht] at hw
    simp only at hw
    unfold Cell.okWide Cell.ok at hw
    rw [ht] at hw
    cases v <;> first | rfl | (simp at hw)
  rw [hcs] at hf
  exact open_arg he hs ht hc hdec hf
end
end Go.Vai

namespace Go.Vai
open Go
/-! The rules, bundled: simp takes them apart. -/
theorem Bo_nt : (!true) = false := id rfl
theorem Bo_nf : (!false) = true := id rfl
theorem De_t : decide True = true := by simp
theorem De_f : decide False = false := by simp
theorem Ld0 (l : List Value) : l.drop 0 = l := id rfl
theorem Lts (a : Value) (l : List Value) (n : Nat) : (a :: l).take (n + 1) = a :: l.take n := id rfl
theorem Lt0 (l : List Value) : l.take 0 = [] := id rfl
theorem Lds (a : Value) (l : List Value) (n : Nat) : (a :: l).drop (n + 1) = l.drop n := id rfl
theorem Lg0 (a : Value) (l : List Value) : (a :: l)[0]? = some a := id rfl
theorem Lgs (a : Value) (l : List Value) (n : Nat) : (a :: l)[n + 1]? = l[n]? := id rfl
theorem Bo_at (b : Bool) : (b && true) = b := by cases b <;> rfl
theorem Bo_ta (b : Bool) : (true && b) = b := by cases b <;> rfl
theorem Bo_as (b : Bool) : (b && b) = b := by cases b <;> rfl
theorem Lac (p : Value → Bool) (a : Value) (l : List Value) : (a :: l).all p = (p a && l.all p) := id rfl
theorem Lan (p : Value → Bool) : ([] : List Value).all p = true := id rfl
theorem Llc (a : Value) (l : List Value) : (a :: l).length = l.length + 1 := id rfl
theorem Lln : ([] : List Value).length = 0 := id rfl
theorem Nza (n : Nat) : 0 + n = n := by omega
theorem Naz (n : Nat) : n + 0 = n := by omega
theorem Wz : type_of% (And.intro (And.intro (And.intro (And.intro (And.intro (And.intro @load1_eq @loadA_eq) (And.intro @storeV_eq (And.intro @newBlock_eq @ldO_cells))) (And.intro (And.intro @ldO_ro (And.intro @ldA_cells @ldA_ro)) (And.intro @stO_cells (And.intro @cellsK_eq @optK_some)))) (And.intro (And.intro (And.intro @RdK_some (And.intro @AlK_some @SameK_true)) (And.intro @wantV_true (And.intro @wantV_false @wantV_undef))) (And.intro (And.intro @GuardW_true (And.intro @GuardW_false @CondW_true)) (And.intro @CondW_false (And.intro @wrap_id @bin_add))))) (And.intro (And.intro (And.intro (And.intro @bin_sub (And.intro @bin_mul @bin_eql)) (And.intro @bin_neq (And.intro @bin_lss @bin_gtr))) (And.intro (And.intro @bin_leq (And.intro @bin_geq @un_not)) (And.intro @un_neg (And.intro @conv_i64 @pick_true)))) (And.intro (And.intro (And.intro @pick_false (And.intro @lenSli_eq @fieldAddr_eq)) (And.intro @nil_ptr (And.intro @nil_fun @extract_0))) (And.intro (And.intro @extract_1 (And.intro @extract_2 @callV_eq)) (And.intro @lt_t (And.intro @lt_f @eq_t)))))) (And.intro (And.intro (And.intro (And.intro (And.intro @eq_lt @eq_gt) (And.intro @T.get_upd_same (And.intro @T.get_updne @T.upd_same))) (And.intro (And.intro @Bo_nt (And.intro @Bo_nf @De_t)) (And.intro @De_f (And.intro @Ld0 @Lts)))) (And.intro (And.intro (And.intro @Lt0 (And.intro @Lds @Lg0)) (And.intro @Lgs (And.intro @Nza @Naz))) (And.intro (And.intro @slot_0 (And.intro @slot_s @cells_agg)) (And.intro @cells_int (And.intro @cells_bool @cells_ptr))))) (And.intro (And.intro (And.intro (And.intro @cells_slice (And.intro @over_all @fill_1)) (And.intro @fill_nil (And.intro @fill_cons @repeatL_0))) (And.intro (And.intro @repeatL_1 (And.intro @repeatL_2 @over_s)) (And.intro @over_0 (And.intro @over_e @reV_some)))) (And.intro (And.intro (And.intro @reN_some (And.intro @reG_true @reG_false)) (And.intro @veq_int (And.intro @veq_bool @veq_ptr))) (And.intro (And.intro @veq_sli (And.intro @veq_sln @veq_2)) (And.intro @veq_4 (And.intro @Bo_at @Bo_ta))))))) := (And.intro (And.intro (And.intro (And.intro (And.intro (And.intro @load1_eq @loadA_eq) (And.intro @storeV_eq (And.intro @newBlock_eq @ldO_cells))) (And.intro (And.intro @ldO_ro (And.intro @ldA_cells @ldA_ro)) (And.intro @stO_cells (And.intro @cellsK_eq @optK_some)))) (And.intro (And.intro (And.intro @RdK_some (And.intro @AlK_some @SameK_true)) (And.intro @wantV_true (And.intro @wantV_false @wantV_undef))) (And.intro (And.intro @GuardW_true (And.intro @GuardW_false @CondW_true)) (And.intro @CondW_false (And.intro @wrap_id @bin_add))))) (And.intro (And.intro (And.intro (And.intro @bin_sub (And.intro @bin_mul @bin_eql)) (And.intro @bin_neq (And.intro @bin_lss @bin_gtr))) (And.intro (And.intro @bin_leq (And.intro @bin_geq @un_not)) (And.intro @un_neg (And.intro @conv_i64 @pick_true)))) (And.intro (And.intro (And.intro @pick_false (And.intro @lenSli_eq @fieldAddr_eq)) (And.intro @nil_ptr (And.intro @nil_fun @extract_0))) (And.intro (And.intro @extract_1 (And.intro @extract_2 @callV_eq)) (And.intro @lt_t (And.intro @lt_f @eq_t)))))) (And.intro (And.intro (And.intro (And.intro (And.intro @eq_lt @eq_gt) (And.intro @T.get_upd_same (And.intro @T.get_updne @T.upd_same))) (And.intro (And.intro @Bo_nt (And.intro @Bo_nf @De_t)) (And.intro @De_f (And.intro @Ld0 @Lts)))) (And.intro (And.intro (And.intro @Lt0 (And.intro @Lds @Lg0)) (And.intro @Lgs (And.intro @Nza @Naz))) (And.intro (And.intro @slot_0 (And.intro @slot_s @cells_agg)) (And.intro @cells_int (And.intro @cells_bool @cells_ptr))))) (And.intro (And.intro (And.intro (And.intro @cells_slice (And.intro @over_all @fill_1)) (And.intro @fill_nil (And.intro @fill_cons @repeatL_0))) (And.intro (And.intro @repeatL_1 (And.intro @repeatL_2 @over_s)) (And.intro @over_0 (And.intro @over_e @reV_some)))) (And.intro (And.intro (And.intro @reN_some (And.intro @reG_true @reG_false)) (And.intro @veq_int (And.intro @veq_bool @veq_ptr))) (And.intro (And.intro @veq_sli (And.intro @veq_sln @veq_2)) (And.intro @veq_4 (And.intro @Bo_at @Bo_ta)))))))
theorem Wx : type_of% (And.intro (And.intro (And.intro @Lac @Lan) (And.intro @one_int (And.intro @one_bool @one_str))) (And.intro (And.intro @one_ptr (And.intro @one_sli @one_map)) (And.intro @one_fun (And.intro @one_ifc @Bo_as)))) := (And.intro (And.intro (And.intro @Lac @Lan) (And.intro @one_int (And.intro @one_bool @one_str))) (And.intro (And.intro @one_ptr (And.intro @one_sli @one_map)) (And.intro @one_fun (And.intro @one_ifc @Bo_as))))
theorem Wy : type_of% (And.intro (And.intro @cells_agg (And.intro @cells_int @cells_bool)) (And.intro (And.intro @cells_ptr @cells_slice) (And.intro @Llc @Lln))) := (And.intro (And.intro @cells_agg (And.intro @cells_int @cells_bool)) (And.intro (And.intro @cells_ptr @cells_slice) (And.intro @Llc @Lln)))
theorem Wv : type_of% (And.intro @Llc @Lln) := (And.intro @Llc @Lln)
end Go.Vai

namespace Go.Vai
open Go
section
variable {α : Type} {s : Nat} {enc : α → List Value}
set_option maxRecDepth 20000 in
theorem append_in {a h : Heap} {e : TypeId} {z : List Value} {v x : Value} {L M : List α} (he : ∀ a : α, (enc a).length = s) (hone : ∀ a : α, (enc a).all oneC = true) (hs0 : 0 < s) (hs1 : s ≤ 100) (ho : Own enc a e h v L) (hx : Sl enc h x M)
    (hle : Le a h) (hb : L.length + M.length ≤ 1000000) (hal : h.lo ≤ h.nx) (κ : Value → Heap → Prop)
    (hk : ∀ v' h', Own enc a e h' v' (L ++ M) → Le a h' → h'.nx ≤ h.nx + 1 → h.nx ≤ h'.nx → h'.lo = h.lo → (∀ b, b < h.nx → h.bl.get b ≠ some (cellsO (L.flatMap enc) e true) → h'.bl.get b = h.bl.get b) → κ v' h') : appendB False And e s z false v x h κ := by
  by_cases hM : M = []
  · subst hM
    rw [append_nil hx (by rcases ho with ⟨rfl, rfl | ⟨b, o, rfl⟩⟩ | ⟨b, rfl, _⟩ <;> exact ⟨_, _, _, rfl⟩)]
    exact hk v h (by simpa using ho) hle (Nat.le_succ _) (Nat.le_refl _) rfl (fun _ _ _ => rfl)
  · obtain ⟨m, hm⟩ : ∃ m, M.length = m + 1 := ⟨M.length - 1, by have := List.length_pos_iff.2 hM; omega⟩
    have hfl := flat_length (enc := enc) he
    have hfirst := hx.first (β := Prop) (fl := False) he
    obtain ⟨y, cap, rfl, h2⟩ := hx
    have hml : ∀ K : List α, K.length ≤ 1000000 → (K.flatMap enc).length ≤ 1000000000000 := fun K hK => by
      rw [hfl]
      have := Nat.mul_le_mul hK hs1
      omega
    have fresh : ∀ (hh : Heap) (ws : List Value), ws = (L ++ M).flatMap enc → Le a hh → hh.nx = h.nx → hh.lo = h.lo → (∀ b, b < h.nx → h.bl.get b ≠ some (cellsO (L.flatMap enc) e true) → hh.bl.get b = h.bl.get b) → newCells False ws e true hh fun b h' => κ (.slice (some ⟨b, 0, none⟩) (L.length + M.length) openCap) h' := by
      intro hh ws hw hah hnx hlo hgt
      subst hw
      unfold newCells
      rw [cellsK_eq _ _ _ _ (hml _ (by simp; omega)), newBlock_eq]
      refine hk _ _ (.inr ⟨hh.nx, by simp, hah.nx, Nat.lt_succ_self _, by show hh.lo ≤ _; omega, T.get_upd_same _ _ _⟩) (hah.new _) (by show hh.nx + 1 ≤ _; omega) (by show h.nx ≤ hh.nx + 1; omega) hlo (fun b hb hn => (T.get_updne _ _ (by omega)).trans (hgt b hb hn))
    rcases ho with ⟨rfl, hv⟩ | ⟨b, rfl, h3, h4, h5, h6⟩
    · have hF := fresh h (M.flatMap enc) (by simp) hle rfl rfl (fun _ _ _ => rfl)
      simp only [List.length_nil, Nat.zero_add] at hF
      rcases hv with rfl | ⟨b, o, rfl⟩
      · unfold appendB comeB
        simp only
        rw [hfirst]
        simp only [hm, fnK_eq]
        rw [show Nat.ble (Nat.add 0 (m + 1)) 1000000000 = true from Nat.ble_eq_true_of_le (by show 0 + (m + 1) ≤ _; omega)]
        rw [hm] at hF
        have e1 : Nat.add 0 (m + 1) = m + 1 := by show 0 + (m + 1) = _; omega
        rw [e1]
        exact hF
      · unfold appendB comeB
        simp only
        rw [hfirst]
        simp only [hm, fnK_eq]
        have e1 : Nat.add 0 (m + 1) = m + 1 := by show 0 + (m + 1) = _; omega
        rw [e1, show Nat.ble (m + 1) 1000000000 = true from Nat.ble_eq_true_of_le (by omega)]
        rw [hm] at hF
        show firstB False h s 0 _ _
        rw [firstB_zero _ _ _ _ _ (by simp)]
        exact hF
    · unfold appendB comeB
      simp only
      rw [hfirst]
      simp only [hm, fnK_eq]
      have e1 : Nat.add L.length (m + 1) = L.length + (m + 1) := rfl
      rw [e1, show Nat.ble (L.length + (m + 1)) 1000000000 = true from Nat.ble_eq_true_of_le (by omega)]
      have e2 : Nat.beq openCap anyCap = false := by decide
      have e3 : Nat.beq openCap openCap = true := Nat.beq_refl _
      simp only [e2, e3, h6]
      have e4 : Nat.ble (Nat.add 0 (Nat.mul (L.length + (m + 1)) s)) (L.flatMap enc).length = false := by
        rw [hfl]
        cases hbb : Nat.ble (Nat.add 0 (Nat.mul (L.length + (m + 1)) s)) (L.length * s) with
        | false => rfl
        | true =>
          have h7 : 0 + (L.length + (m + 1)) * s ≤ L.length * s := Nat.le_of_ble_eq_true hbb
          rw [Nat.add_mul, Nat.succ_mul] at h7
          omega
      have e5 : (M.flatMap enc).all oneC = true := by
        rw [List.all_flatMap]; simp only [List.all_eq_true]; intro x _; exact List.all_eq_true.1 (hone x)
      simp only [cellsO, Nat.beq_refl, e4, e5, Bool.and_self]
      have hh : Has (h.bl.get b) 0 (L.flatMap enc) := by rw [h6]; exact Has.all
      rw [firstB_has hh s L.length _ _ _ (hfl L).symm, setBlock_eq _ _ _ _ h5]
      have hF := fresh ⟨h.nx, h.bl.upd b (.dead (L.flatMap enc).length e), h.lo⟩ (L.flatMap enc ++ M.flatMap enc) (by simp) (hle.set h3 _) rfl rfl (fun b' _ hn => T.get_updne _ _ (fun e => hn (by rw [← e]; exact h6)))
      rw [hm] at hF
      exact hF
end
theorem cells_op {vs ws : List Value} {e e' : TypeId} : (some (cellsO vs e false) : Option AObj) ≠ some (cellsO ws e' true) := by
  intro h
  unfold cellsO at h
  simp only [Option.some.injEq, AObj.cells.injEq] at h
  exact absurd h.2.2.2 (by decide)
theorem cells_ty {vs ws : List Value} {e e' : TypeId} {p p' : Bool} (hn : e ≠ e') : (some (cellsO vs e p) : Option AObj) ≠ some (cellsO ws e' p') := by
  intro h
  unfold cellsO at h
  simp only [Option.some.injEq, AObj.cells.injEq] at h
  exact hn h.2.2.1
theorem cells_map {es : List MapEntry} {c : Nat} {ws : List Value} {e : TypeId} {p : Bool} : (some (.map es c) : Option AObj) ≠ some (cellsO ws e p) := by
  intro h
  unfold cellsO at h
  cases h
end Go.Vai

namespace Go.Vai
open Go
def prK (P : Program) (skip : FuncId → Bool) : Prims Prop := ⟨fun f => match skip f with | true => none | false => some (CallW P f), And⟩
theorem prK_ok (P : Program) (skip : FuncId → Bool) : PrimsOk (fun p : Prop => p) (prK P skip) P := by
  refine ⟨fun x y h => h, fun f g hg args args' h φ w κ ha hr hgood => ?_⟩
  unfold prK at hg
  simp only at hg
  split at hg
  · cases hg
  · cases hg
    exact hgood φ w args' ha hr
/-- a call, run with that much fuel -/
theorem callW_run {P : Program} (hm : P.follows .mixedOrders = true) {skip : FuncId → Bool} {f : FuncId} {args : List Value} {h : Heap} {κ : Value → Heap → Prop} (n : Nat)
    (hg : callF False (prK P skip) P (run False (prK P skip) P n) f args h κ) : CallW P f args h κ := by
  intro φ w args' ha hr
  exact callF_sound (good := fun p : Prop => p) (fl := False) (fun h => h) (prK_ok P skip) (run_sound (fun h => h) (prK_ok P skip) (draw_sound (fun h => h) (prK_ok P skip) hm) n).1 ha hr hg
def codeAt (P : Program) (f : FuncId) : Code := match callOk P f with | .mk c _ _ => c | .none => .skip
def seqL : Code → Code | .seq a _ => a | c => c
def seqR : Code → Code | .seq _ b => b | c => c
def inC : Code → Code | .block _ c => c | .loop c => c | .scope c => c | c => c
def rfA : Code → Code | .rangeFunc _ _ a _ => a | c => c
def rfB : Code → Code | .rangeFunc _ _ _ b => b | c => c
theorem run_succ {P : Program} (pr : Prims Prop) (n : Nat) : run False pr P (n + 1) = body False pr P (run False pr P n) := rfl
end Go.Vai

namespace Go.Proofs
open Go.Vai
/-! ## Picks and rounds: their code, in pieces -/
theorem mixed : Tryz.prog.follows .mixedOrders = true := by kernel_rfl
abbrev fP : FuncId := 9
abbrev fR : FuncId := 34
abbrev fN : FuncId := 21
def skipP (f : FuncId) : Bool := Nat.beq f fP || Nat.beq f fR
noncomputable abbrev pP : Prims Prop := prK Tryz.prog skipP
noncomputable abbrev RP (n : Nat) : Rec Prop := run False pP Tryz.prog n
def cdA : Code → Code | .cond _ a _ => a | c => c
noncomputable def cP : Code := codeAt Tryz.prog fP
noncomputable def cR : Code := codeAt Tryz.prog fR
noncomputable def q0 : Code := seqL cP
noncomputable def qM : Code := seqL (seqR cP)
noncomputable def q1 : Code := seqL qM
noncomputable def qF : Code := inC (seqR qM)
noncomputable def qa : Code := seqL (rfA qF)
noncomputable def qb : Code := seqR (rfA qF)
noncomputable def qB : Code := inC (rfB qF)
noncomputable def q4 : Code := seqL (seqL qB)
noncomputable def q5 : Code := seqR qB
noncomputable def q6 : Code := seqL (seqR (seqR cP))
theorem cP_eq : cP = .seq q0 (.seq (.seq q1 (.block 0 (.rangeFunc (.tmp 11) #[12, 13] (.seq qa qb) (.block 1 (.seq (.seq q4 (.cond (.tmp 21) (.exit 0) .skip)) q5))))) (.seq q6 .ret)) := by kernel_rfl
noncomputable def r0 : Code := seqL cR
noncomputable def r1 : Code := seqL (seqR cR)
noncomputable def rX : Code := inC (inC (seqR (seqR cR)))
noncomputable def r2 : Code := seqL (seqL rX)
noncomputable def rY : Code := seqR rX
noncomputable def r3 : Code := seqR rY
noncomputable def rZ : Code := inC (seqL rY)
noncomputable def r4 : Code := seqL (seqL rZ)
noncomputable def rU : Code := inC (inC (seqR (seqL rZ)))
noncomputable def r12 : Code := seqL (seqR rZ)
noncomputable def r5 : Code := seqL rU
noncomputable def rT : Code := seqR (seqR rU)
noncomputable def r11 : Code := seqR rT
noncomputable def rW : Code := inC (seqL rT)
noncomputable def r6 : Code := seqL rW
noncomputable def r7 : Code := seqL (seqL (seqR rW))
noncomputable def r8 : Code := cdA (seqR (seqL (seqR rW)))
noncomputable def r9 : Code := seqL (seqR (seqR rW))
noncomputable def r10 : Code := seqL (seqR (seqR (seqR rW)))
noncomputable abbrev inB : Code := .seq r5 (.seq (.cond (.tmp 13) .skip (.exit 2)) (.seq (.block 3 (.seq r6 (.seq (.seq r7 (.cond (.tmp 17) r8 .skip)) (.seq r9 (.seq r10 (.cond (.tmp 32) .ret .skip)))))) r11))
noncomputable abbrev outB : Code := .seq (.seq r2 (.cond (.tmp 8) .skip (.exit 0))) (.seq (.block 1 (.seq (.seq r4 (.block 2 (.loop inB))) (.seq r12 (.cond (.tmp 45) .ret .skip)))) r3)
theorem cR_eq : cR = .seq r0 (.seq r1 (.block 0 (.loop outB))) := by kernel_rfl
noncomputable def gB (b : Bool) (x y : Prop) : Prop := Bool.rec (motive := fun _ => Prop) x y b
noncomputable def gO (g : Option (Nat × Bool)) (d : Nat) (tm : T Value) (h : Heap) (f : (Value → Heap → Prop) → Prop) (K : T Value → Heap → Prop) : Prop := gB (wantB tm g) (T.set tm d undef fun tm => K tm h) (f fun v h => T.set tm d v fun tm => K tm h)
variable (rec : Rec Prop) (tm : T Value) (h : Heap)
theorem rq0 (κ : Ex → T Value → Heap → Prop) : body False pP Tryz.prog rec q0 tm h κ = ev tm (.tmp 1) fun x => cellsK False (Value.cells x).toList 3 false fun o => newBlock False o h fun b h => T.set tm 4 (ptrTo b) fun tm => newBlock False (cellsO [.slice none 0 0] 24 false) h fun b h => T.set tm 6 (ptrTo b) fun tm => κ .normal tm h := by kernel_rfl
theorem rq1 (κ : Ex → T Value → Heap → Prop) : body False pP Tryz.prog rec q1 tm h κ = ev tm (.tmp 0) fun x => T.set tm 9 x fun tm => ev tm (.tmp 2) fun x => T.set tm 10 x fun tm => ev tm (.tmp 9) fun x => ev tm (.tmp 10) fun y => CallW Tryz.prog fN [x, y] h fun v h => T.set tm 11 v fun tm => κ .normal tm h := by kernel_rfl
theorem rqa (κ : Ex → T Value → Heap → Prop) : body False pP Tryz.prog rec qa tm h κ = ev tm (.tmp 12) fun x => T.set tm 7 x fun tm => κ .normal tm h := by kernel_rfl
theorem rqb (κ : Ex → T Value → Heap → Prop) : body False pP Tryz.prog rec qb tm h κ = newBlock False (cellsO [.int .i64 0, .int .i64 0] 46 false) h fun b h => T.set tm 8 (ptrTo b) fun tm => ev tm (.tmp 8) fun a => ev tm (.tmp 13) fun v => storeV False 2 a v h fun v h => κ .normal tm h := by kernel_rfl
theorem rq4 (κ : Ex → T Value → Heap → Prop) : body False pP Tryz.prog rec q4 tm h κ =
    ev tm (.tmp 7) fun x => T.set tm 14 x fun tm => ev tm (.tmp 4) fun x => load1 False x h fun v h => T.set tm 15 v fun tm => ev tm (.tmp 14) fun a => ev tm (.tmp 15) fun b => binB False Tryz.prog .geq 3 false false a b h fun v h => T.set tm 16 v fun tm => ev tm (.tmp 16) fun x => T.set tm 17 x fun tm =>
    gO (some (17, false)) 18 tm h (fun k => ev tm (.tmp 6) fun x => load1 False x h k) fun tm h => gO (some (17, false)) 19 tm h (fun k => ev tm (.tmp 18) fun x => lenSli False x h k) fun tm h => gO (some (17, false)) 20 tm h (fun k => ev tm (.tmp 19) fun x => binB False Tryz.prog .eql 3 true false x (.int .i64 4096) h k) fun tm h =>
    ev tm (.tmp 17) fun a => ev tm (.tmp 20) fun b => pickB False a (.bool true) b h fun v h => T.set tm 21 v fun tm => κ .normal tm h := by kernel_rfl
theorem rq5 (κ : Ex → T Value → Heap → Prop) : body False pP Tryz.prog rec q5 tm h κ =
    ev tm (.tmp 6) fun x => load1 False x h fun v h => T.set tm 22 v fun tm => ev tm (.tmp 8) fun x => loadA False 2 x h fun v h => T.set tm 23 v fun tm =>
    ev tm (.tmp 23) fun v => fillB False [(0, 2)] [v] [.int .i64 0, .int .i64 0] fun cs => cellsK False cs 46 false fun o => newBlock False o h fun b h => T.set tm 24 (sliceTo 1 1 b) fun tm =>
    ev tm (.tmp 22) fun s => ev tm (.tmp 24) fun x => appendB False And 46 2 [.int .i64 0, .int .i64 0] false s x h fun v h => T.set tm 25 v fun tm => ev tm (.tmp 6) fun a => ev tm (.tmp 25) fun v => storeV False 1 a v h fun v h => κ .normal tm h := by kernel_rfl
theorem rq6 (κ : Ex → T Value → Heap → Prop) : body False pP Tryz.prog rec q6 tm h κ = ev tm (.tmp 6) fun x => load1 False x h fun v h => T.set tm 26 v fun tm => ev tm (.tmp 6) fun a => ev tm (.tmp 26) fun v => storeV False 1 a v h fun v h => κ .normal tm h := by kernel_rfl
theorem rr0 (κ : Ex → T Value → Heap → Prop) : body False pP Tryz.prog rec r0 tm h κ = T.set tm 4 (.int .i64 0) fun tm => κ .normal tm h := by kernel_rfl
theorem rr1 (κ : Ex → T Value → Heap → Prop) : body False pP Tryz.prog rec r1 tm h κ = T.set tm 5 (.int .i64 0) fun tm => κ .normal tm h := by kernel_rfl
theorem rr2 (κ : Ex → T Value → Heap → Prop) : body False pP Tryz.prog rec r2 tm h κ = ev tm (.tmp 1) fun x => load1 False x h fun v h => T.set tm 7 v fun tm => ev tm (.tmp 7) fun x => binB False Tryz.prog .gtr 3 true false x (.int .i64 0) h fun v h => T.set tm 8 v fun tm => κ .normal tm h := by kernel_rfl
theorem rr3 (κ : Ex → T Value → Heap → Prop) : body False pP Tryz.prog rec r3 tm h κ = ev tm (.tmp 5) fun x => T.set tm 9 x fun tm => ev tm (.tmp 9) fun x => binB False Tryz.prog .add 3 true false x (.int .i64 1) h fun v h => T.set tm 10 v fun tm => ev tm (.tmp 10) fun x => T.set tm 5 x fun tm => κ .normal tm h := by kernel_rfl
theorem rr4 (κ : Ex → T Value → Heap → Prop) : body False pP Tryz.prog rec r4 tm h κ = ev tm (.tmp 1) fun x => load1 False x h fun v h => T.set tm 11 v fun tm => T.set tm 12 (.int .i64 0) fun tm => κ .normal tm h := by kernel_rfl
theorem rr5 (κ : Ex → T Value → Heap → Prop) : body False pP Tryz.prog rec r5 tm h κ = ev tm (.tmp 12) fun a => ev tm (.tmp 11) fun b => binB False Tryz.prog .lss 3 false false a b h fun v h => T.set tm 13 v fun tm => κ .normal tm h := by kernel_rfl
theorem rr6 (κ : Ex → T Value → Heap → Prop) : body False pP Tryz.prog rec r6 tm h κ = T.set tm 14 (.agg ⟨[.int .i64 1, .int .i64 0]⟩) fun tm => newBlock False (cellsO [.int .i64 0, .int .i64 0] 46 false) h fun b h => T.set tm 6 (ptrTo b) fun tm => ev tm (.tmp 6) fun a => ev tm (.tmp 14) fun v => storeV False 2 a v h fun v h => κ .normal tm h := by kernel_rfl
theorem rr7 (κ : Ex → T Value → Heap → Prop) : body False pP Tryz.prog rec r7 tm h κ = ev tm (.tmp 2) fun x => load1 False x h fun v h => T.set tm 15 v fun tm => ev tm (.tmp 15) fun x => lenSli False x h fun v h => T.set tm 16 v fun tm => ev tm (.tmp 16) fun x => binB False Tryz.prog .gtr 3 true false x (.int .i64 0) h fun v h => T.set tm 17 v fun tm => κ .normal tm h := by kernel_rfl
theorem rr9 (κ : Ex → T Value → Heap → Prop) : body False pP Tryz.prog rec r9 tm h κ = ev tm (.tmp 4) fun x => T.set tm 26 x fun tm => ev tm (.tmp 26) fun x => binB False Tryz.prog .add 3 true false x (.int .i64 1) h fun v h => T.set tm 27 v fun tm => ev tm (.tmp 27) fun x => T.set tm 4 x fun tm => κ .normal tm h := by kernel_rfl
theorem rr10 (κ : Ex → T Value → Heap → Prop) : body False pP Tryz.prog rec r10 tm h κ =
    ev tm (.tmp 0) fun x => T.set tm 28 x fun tm => ev tm (.tmp 5) fun x => T.set tm 29 x fun tm => ev tm (.tmp 6) fun x => loadA False 2 x h fun v h => T.set tm 30 v fun tm => ev tm (.tmp 29) fun x => ev tm (.tmp 30) fun y => ev tm (.tmp 28) fun f => callV False pP Tryz.prog rec f [x, y] h fun v h => T.set tm 31 v fun tm => ev tm (.tmp 31) fun x => unB False .not x h fun v h => T.set tm 32 v fun tm => κ .normal tm h := by kernel_rfl
theorem rr11 (κ : Ex → T Value → Heap → Prop) : body False pP Tryz.prog rec r11 tm h κ = ev tm (.tmp 12) fun x => binB False Tryz.prog .add 3 true false x (.int .i64 1) h fun v h => T.set tm 33 v fun tm => ev tm (.tmp 33) fun x => T.set tm 12 x fun tm => κ .normal tm h := by kernel_rfl
theorem rr12 (κ : Ex → T Value → Heap → Prop) : body False pP Tryz.prog rec r12 tm h κ =
    ev tm (.tmp 0) fun x => T.set tm 34 x fun tm => ev tm (.tmp 5) fun x => T.set tm 35 x fun tm => T.set tm 36 (.agg ⟨[.int .i64 2, .int .i64 1]⟩) fun tm => ev tm (.tmp 35) fun x => ev tm (.tmp 36) fun y => ev tm (.tmp 34) fun f => callV False pP Tryz.prog rec f [x, y] h fun v h => T.set tm 37 v fun tm => ev tm (.tmp 37) fun x => unB False .not x h fun v h => T.set tm 38 v fun tm => ev tm (.tmp 38) fun x => T.set tm 39 x fun tm =>
    gO (some (39, false)) 40 tm h (fun k => ev tm (.tmp 0) fun x => k x h) fun tm h => gO (some (39, false)) 41 tm h (fun k => ev tm (.tmp 5) fun x => k x h) fun tm h => gO (some (39, false)) 42 tm h (fun k => k (.agg ⟨[.int .i64 4, .int .i64 0]⟩) h) fun tm h =>
    gO (some (39, false)) 43 tm h (fun k => ev tm (.tmp 41) fun x => ev tm (.tmp 42) fun y => ev tm (.tmp 40) fun f => callV False pP Tryz.prog rec f [x, y] h k) fun tm h => gO (some (39, false)) 44 tm h (fun k => ev tm (.tmp 43) fun x => unB False .not x h k) fun tm h =>
    ev tm (.tmp 39) fun a => ev tm (.tmp 44) fun b => pickB False a (.bool true) b h fun v h => T.set tm 45 v fun tm => κ .normal tm h := by kernel_rfl
end Go.Proofs

namespace Go.Proofs
open Go.Vai
theorem tm_same (t : T Value) (n : Nat) (v : Value) : tmv (t.upd n v) n = v := by unfold tmv; rw [T.get_upd_same]
theorem tm_ne (t : T Value) {n m : Nat} (v : Value) (h : n ≠ m) : tmv (t.upd n v) m = tmv t m := by unfold tmv; rw [T.get_updne _ _ h]
theorem ev_tmp {β : Type} (tm : T Value) (t : Nat) (κ : Value → β) : ev tm (.tmp t) κ = κ (tmv tm t) := ev_eq _ _ _
theorem gB_t (x y : Prop) : gB true x y = y := id rfl
theorem gB_f (x y : Prop) : gB false x y = x := id rfl
def wBv (v : Value) (w : Bool) : Bool := match v, w with | .bool true, true => true | .bool false, false => true | _, _ => false
theorem wantB_s (tm : T Value) (s : Nat) (w : Bool) : wantB tm (some (s, w)) = wBv (tmv tm s) w := by kernel_rfl
theorem wB_tf : wBv (.bool true) false = false := id rfl
theorem wB_ff : wBv (.bool false) false = true := id rfl
@[congr] theorem gB_congr {b b' : Bool} {x y : Prop} (e : b = b') : gB b x y = gB b' x y := by rw [e]
@[congr] theorem gO_congr {g : Option (Nat × Bool)} {d : Nat} {tm : T Value} {h : Heap} {f : (Value → Heap → Prop) → Prop} {K : T Value → Heap → Prop} : gO g d tm h f K = gO g d tm h f K := rfl
theorem gO_eq (s : Nat) (w : Bool) (d : Nat) (tm : T Value) (h : Heap) (f : (Value → Heap → Prop) → Prop) (K : T Value → Heap → Prop) : gO (some (s, w)) d tm h f K = gB (wBv (tmv tm s) w) (T.set tm d undef fun tm => K tm h) (f fun v h => T.set tm d v fun tm => K tm h) := by
  unfold gO
  rw [wantB_s]
section
variable (n : Nat) (a b : Code) (tm : T Value) (h : Heap) (κ : Ex → T Value → Heap → Prop)
theorem P_seq : RP (n + 1) (.seq a b) tm h κ = RP n a tm h (seqK (RP n) b κ) := id rfl
theorem P_cond (t : Nat) : RP (n + 1) (.cond (.tmp t) a b) tm h κ = condK False (RP n) a b tm h κ (tmv tm t) := ev_eq tm (.tmp t) (condK False (RP n) a b tm h κ)
theorem P_block (i : Nat) : RP (n + 1) (.block i a) tm h κ = RP n a tm h (blockK i κ) := id rfl
theorem P_loop : RP (n + 1) (.loop a) tm h κ = RP n a tm h (seqK (RP n) (.loop a) κ) := id rfl
theorem P_exit (i : Nat) : RP (n + 1) (.exit i) tm h κ = κ (.exit i) tm h := id rfl
theorem P_ret : RP (n + 1) .ret tm h κ = κ .ret tm h := id rfl
theorem P_skip : RP (n + 1) .skip tm h κ = κ .normal tm h := id rfl
theorem P_rf (t : Nat) (ps : Array Tmp) : RP (n + 1) (.rangeFunc (.tmp t) ps a b) tm h κ = rangeFuncB False pP Tryz.prog (RP n) ps.toList a b tm h κ (tmv tm t) := ev_eq tm (.tmp t) (rangeFuncB False pP Tryz.prog (RP n) ps.toList a b tm h κ)
theorem P_q0 : RP (n + 1) q0 tm h κ = body False pP Tryz.prog (RP n) q0 tm h κ := id rfl
theorem P_q1 : RP (n + 1) q1 tm h κ = body False pP Tryz.prog (RP n) q1 tm h κ := id rfl
theorem P_qa : RP (n + 1) qa tm h κ = body False pP Tryz.prog (RP n) qa tm h κ := id rfl
theorem P_qb : RP (n + 1) qb tm h κ = body False pP Tryz.prog (RP n) qb tm h κ := id rfl
theorem P_q4 : RP (n + 1) q4 tm h κ = body False pP Tryz.prog (RP n) q4 tm h κ := id rfl
theorem P_q5 : RP (n + 1) q5 tm h κ = body False pP Tryz.prog (RP n) q5 tm h κ := id rfl
theorem P_q6 : RP (n + 1) q6 tm h κ = body False pP Tryz.prog (RP n) q6 tm h κ := id rfl
theorem P_r0 : RP (n + 1) r0 tm h κ = body False pP Tryz.prog (RP n) r0 tm h κ := id rfl
theorem P_r1 : RP (n + 1) r1 tm h κ = body False pP Tryz.prog (RP n) r1 tm h κ := id rfl
theorem P_r2 : RP (n + 1) r2 tm h κ = body False pP Tryz.prog (RP n) r2 tm h κ := id rfl
theorem P_r3 : RP (n + 1) r3 tm h κ = body False pP Tryz.prog (RP n) r3 tm h κ := id rfl
theorem P_r4 : RP (n + 1) r4 tm h κ = body False pP Tryz.prog (RP n) r4 tm h κ := id rfl
theorem P_r5 : RP (n + 1) r5 tm h κ = body False pP Tryz.prog (RP n) r5 tm h κ := id rfl
theorem P_r6 : RP (n + 1) r6 tm h κ = body False pP Tryz.prog (RP n) r6 tm h κ := id rfl
theorem P_r7 : RP (n + 1) r7 tm h κ = body False pP Tryz.prog (RP n) r7 tm h κ := id rfl
theorem P_r9 : RP (n + 1) r9 tm h κ = body False pP Tryz.prog (RP n) r9 tm h κ := id rfl
theorem P_r10 : RP (n + 1) r10 tm h κ = body False pP Tryz.prog (RP n) r10 tm h κ := id rfl
theorem P_r11 : RP (n + 1) r11 tm h κ = body False pP Tryz.prog (RP n) r11 tm h κ := id rfl
theorem P_r12 : RP (n + 1) r12 tm h κ = body False pP Tryz.prog (RP n) r12 tm h κ := id rfl
theorem sK_n (rec : Rec Prop) : seqK rec b κ .normal tm h = rec b tm h κ := id rfl
theorem sK_e (rec : Rec Prop) (i : Nat) : seqK rec b κ (.exit i) tm h = κ (.exit i) tm h := id rfl
theorem sK_r (rec : Rec Prop) : seqK rec b κ .ret tm h = κ .ret tm h := id rfl
theorem bK_n (i : Nat) : blockK i κ .normal tm h = κ .normal tm h := id rfl
theorem bK_r (i : Nat) : blockK i κ .ret tm h = κ .ret tm h := id rfl
theorem bK_e0 : blockK 0 κ (.exit 0) tm h = κ .normal tm h := id rfl
theorem bK_e2 : blockK 2 κ (.exit 2) tm h = κ .normal tm h := id rfl
theorem bK_10 : blockK 1 κ (.exit 0) tm h = κ (.exit 0) tm h := id rfl
theorem cK_t (rec : Rec Prop) : condK False rec a b tm h κ (.bool true) = rec a tm h κ := id rfl
theorem cK_f (rec : Rec Prop) : condK False rec a b tm h κ (.bool false) = rec b tm h κ := id rfl
end
def rsAt (P : Program) (f : FuncId) : List XRes := match callOk P f with | .mk _ rs _ => rs | .none => []
theorem callP (rec : Rec Prop) (a b c : Value) (h : Heap) (κ : Value → Heap → Prop) : callF False pP Tryz.prog rec fP [a, b, c] h κ = rec cP (lay [a, b, c] .nil 0) h (endK False (rsAt Tryz.prog fP) κ) := by kernel_rfl
theorem callR (rec : Rec Prop) (y a b : Value) (h : Heap) (κ : Value → Heap → Prop) : callF False pP Tryz.prog rec fR [y, a, b] h κ = rec cR (lay [y, a, b] .nil 0) h (endK False [] κ) := by kernel_rfl
theorem lay3 (a b c : Value) : lay [a, b, c] .nil 0 = (((T.nil : T Value).upd 0 a).upd 1 b).upd 2 c := by kernel_rfl
theorem end0 (tm : T Value) (h : Heap) (κ : Value → Heap → Prop) : endK False [] κ .ret tm h = κ (.tuple ⟨[]⟩) h := id rfl
theorem end0n (tm : T Value) (h : Heap) (κ : Value → Heap → Prop) : endK False [] κ .normal tm h = κ (.tuple ⟨[]⟩) h := id rfl
theorem endP (tm : T Value) (h : Heap) (κ : Value → Heap → Prop) : endK False (rsAt Tryz.prog fP) κ .ret tm h = ev tm (.tmp 6) fun x => load1 False x h fun v h => κ v h := by kernel_rfl
/-! ## one round of Picks -/
noncomputable abbrev qBd : Code := .block 1 (.seq (.seq q4 (.cond (.tmp 21) (.exit 0) .skip)) q5)
noncomputable abbrev loopB (st : LoopState) (pd : Option Ex) (tmA : T Value) : AObj := .loop st pd tmA [12, 13] (.seq qa qb) qBd
theorem rf_eq (rec : Rec Prop) (tm : T Value) (h : Heap) (κ : Ex → T Value → Heap → Prop) (c d : Value) :
    rangeFuncB False pP Tryz.prog rec [12, 13] (.seq qa qb) qBd tm h κ (.func (.func fR) ⟨[]⟩ ⟨[c, d]⟩) = callF False pP Tryz.prog rec fR [.func (.yield h.nx) #[] #[], c, d] ⟨h.nx + 1, h.bl.upd h.nx (loopB .ready none tm), h.lo⟩ (afterLoopK False h.nx tm κ) := newBlock_eq (fl := False) (loopB .ready none tm) h (fun l h => callF False pP Tryz.prog rec fR [.func (.yield l) #[] #[], c, d] h (afterLoopK False l tm κ))
theorem call_y (rec : Rec Prop) (l : Nat) (x y : Value) (h : Heap) (κ : Value → Heap → Prop) : callV False pP Tryz.prog rec (.func (.yield l) #[] #[]) [x, y] h κ = roundB False rec l [x, y] h κ := id rfl
theorem round_eq {rec : Rec Prop} {l : Nat} {x y : Value} {h : Heap} {κ : Value → Heap → Prop} {st : LoopState} {pd : Option Ex} {tmA : T Value} (hl : h.bl.get l = some (loopB st pd tmA)) : roundB False rec l [x, y] h κ = rec (.seq qa qb) ((tmA.upd 12 x).upd 13 y) h (beginRoundK False rec l qBd κ) := by
  unfold roundB
  simp only [hl, List.length_cons, List.length_nil]
  show layAt [12, 13] [x, y] tmA _ = _
  unfold layAt
  rw [T.set_eq]
  unfold layAt
  rw [T.set_eq]
  unfold layAt
  rfl
theorem begin_eq {rec : Rec Prop} {l : Nat} {tm : T Value} {h : Heap} {κ : Value → Heap → Prop} {pd : Option Ex} {tmA : T Value} (hl : h.bl.get l = some (loopB .ready pd tmA)) (hlo : h.lo ≤ l) : beginRoundK False rec l qBd κ .normal tm h = rec qBd tm ⟨h.nx, h.bl.upd l (loopB .busy pd tmA), h.lo⟩ (endRoundK False l κ) := by
  unfold beginRoundK
  simp only [hl, setBlock_eq _ _ _ _ hlo]
theorem end_n {l : Nat} {tm : T Value} {h : Heap} {κ : Value → Heap → Prop} {st : LoopState} {pd : Option Ex} {tmA : T Value} (hl : h.bl.get l = some (loopB st pd tmA)) (hlo : h.lo ≤ l) : endRoundK False l κ .normal tm h = κ (.bool true) ⟨h.nx, h.bl.upd l (loopB .ready none tmA), h.lo⟩ := by
  unfold endRoundK
  simp only [hl, setBlock_eq _ _ _ _ hlo]
theorem end_e {l i : Nat} {tm : T Value} {h : Heap} {κ : Value → Heap → Prop} {st : LoopState} {pd : Option Ex} {tmA : T Value} (hl : h.bl.get l = some (loopB st pd tmA)) (hlo : h.lo ≤ l) : endRoundK False l κ (.exit i) tm h = κ (.bool false) ⟨h.nx, h.bl.upd l (loopB .done (some (.exit i)) tmA), h.lo⟩ := by
  unfold endRoundK
  simp only [hl, setBlock_eq _ _ _ _ hlo]
theorem after_e {l i : Nat} {tm tmA : T Value} {v : Value} {h : Heap} {κ : Ex → T Value → Heap → Prop} (hl : h.bl.get l = some (loopB .done (some (.exit i)) tmA)) (hlo : h.lo ≤ l) : afterLoopK False l tm κ v h = κ (.exit i) tm ⟨h.nx, h.bl.upd l (loopB .exhausted (some (.exit i)) tmA), h.lo⟩ := by
  unfold afterLoopK
  simp only [hl, setBlock_eq _ _ _ _ hlo]
def encP (p : Int × Int) : List Value := [.int .i64 p.1, .int .i64 p.2]
theorem encP_len (p : Int × Int) : (encP p).length = 2 := rfl
theorem encP_one (p : Int × Int) : (encP p).all oneC = true := rfl
theorem Own.put {α : Type} {enc : α → List Value} {a h : Heap} {e : TypeId} {v : Value} {L : List α} (ho : Own enc a e h v L) {c : Nat} (hc : h.bl.get c ≠ some (cellsO (L.flatMap enc) e true)) (o : AObj) : Own enc a e ⟨h.nx, h.bl.upd c o, h.lo⟩ v L := by
  rcases ho with ho | ⟨b, h0, h1, h2, h3, h4⟩
  · exact .inl ho
  · refine .inr ⟨b, h0, h1, h2, h3, (T.get_updne _ _ ?_).trans h4⟩
    rintro rfl
    exact hc h4
abbrev OwnP (a h : Heap) (v : Value) (L : List (Int × Int)) : Prop := Own encP a 46 h v L
/-- what a round leaves: the loop's state, what was picked -/
structure YI (a : Heap) (o : AObj) (h : Heap) (v : Value) (L : List (Int × Int)) : Prop where
  le : Le a h
  nx : a.nx + 5 ≤ h.nx
  g4 : h.bl.get a.nx = some (cellsO [.int .i64 9999] 3 false)
  g6 : h.bl.get (a.nx + 1) = some (cellsO [v] 24 false)
  gt : h.bl.get (a.nx + 2) = some (cellsO [.int .i64 8] 3 false)
  gw : h.bl.get (a.nx + 3) = some (cellsO [.slice none 0 0] 31 false)
  gl : h.bl.get (a.nx + 4) = some o
  own : OwnP a h v L
theorem yield_w {a : Heap} (hlo : a.lo ≤ a.nx) {tmA : T Value} (hA4 : tmv tmA 4 = ptrTo a.nx) (hA6 : tmv tmA 6 = ptrTo (a.nx + 1)) {h : Heap} {v : Value} {L : List (Int × Int)} (I : YI a (loopB .ready none tmA) h v L) (n : Nat) (r k w : Int) (h0 : 0 ≤ r) (h1 : r < 9999) (hL : L.length ≤ 4096) (κ : Value → Heap → Prop)
    (hk : L.length < 4096 → ∀ h' v', YI a (loopB .ready none tmA) h' v' (L ++ [(k, w)]) → κ (.bool true) h')
    (hd : L.length = 4096 → ∀ h', YI a (loopB .done (some (.exit 0)) tmA) h' v L → κ (.bool false) h') :
    callV False pP Tryz.prog (RP (n + 12)) (.func (.yield (a.nx + 4)) #[] #[]) [.int .i64 r, .agg ⟨[.int .i64 k, .int .i64 w]⟩] h κ := by
  have n1 := I.nx
  have l1 := I.le.lo
  have gl := I.gl
  rw [call_y, round_eq gl, show n + 12 = n + 11 + 1 from rfl]
  simp (disch := first | omega | (simp only [Wx]; done) | (simp only [Wy]; done) | (simp only [Wv]; omega) | with_unfolding_all rfl) only [Wz, ptrTo, sliceTo, P_seq, P_qa, rqa, ev_tmp, T.set_eq, tm_same, tm_ne, sK_n, P_qb, rqb]
  obtain ⟨h2, e2⟩ : ∃ h2 : Heap, h2 = ⟨h.nx + 1, h.bl.upd h.nx (cellsO [.int .i64 k, .int .i64 w] 46 false), h.lo⟩ := ⟨_, rfl⟩
  have le2 : Le h h2 := by rw [e2]; exact (Le.refl h).new _
  have nx2 : h2.nx = h.nx + 1 := by rw [e2]
  have l2 : h2.lo = h.lo := by rw [e2]
  have gn2 : h2.bl.get h.nx = some (cellsO [.int .i64 k, .int .i64 w] 46 false) := by rw [e2]; exact T.get_upd_same _ _ _
  have gl2 := (le2.get _ (by omega)).trans gl
  have g42 := (le2.get _ (by omega)).trans I.g4
  have g62 := (le2.get _ (by omega)).trans I.g6
  have gt2 := (le2.get _ (by omega)).trans I.gt
  have gw2 := (le2.get _ (by omega)).trans I.gw
  have ho2 : OwnP a h2 v L := I.own.le le2
  rw [← e2, begin_eq gl2 (by omega)]
  clear e2
  obtain ⟨h3, e3⟩ : ∃ h3 : Heap, h3 = ⟨h2.nx, h2.bl.upd (a.nx + 4) (loopB .busy none tmA), h2.lo⟩ := ⟨_, rfl⟩
  have le3 : Le a h3 := by rw [e3]; exact (I.le.trans le2).set (by omega) _
  have nx3 : h3.nx = h2.nx := by rw [e3]
  have l3 : h3.lo = h2.lo := by rw [e3]
  have gl3 : h3.bl.get (a.nx + 4) = some (loopB .busy none tmA) := by rw [e3]; exact T.get_upd_same _ _ _
  have g43 : h3.bl.get a.nx = some (cellsO [.int .i64 9999] 3 false) := by rw [e3]; exact (T.get_updne _ _ (by omega)).trans g42
  have g63 : h3.bl.get (a.nx + 1) = some (cellsO [v] 24 false) := by rw [e3]; exact (T.get_updne _ _ (by omega)).trans g62
  have gt3 : h3.bl.get (a.nx + 2) = some (cellsO [.int .i64 8] 3 false) := by rw [e3]; exact (T.get_updne _ _ (by omega)).trans gt2
  have gw3 : h3.bl.get (a.nx + 3) = some (cellsO [.slice none 0 0] 31 false) := by rw [e3]; exact (T.get_updne _ _ (by omega)).trans gw2
  have gn3 : h3.bl.get h.nx = some (cellsO [.int .i64 k, .int .i64 w] 46 false) := by rw [e3]; exact (T.get_updne _ _ (by omega)).trans gn2
  have ho3 : OwnP a h3 v L := by rw [e3]; exact Own.put ho2 (by rw [gl2]; intro hc; unfold cellsO at hc; cases hc) _
  rw [← e3]
  clear e3
  obtain ⟨x', c', rfl, hsl⟩ := (show Sl encP h3 v _ from ho3.sl)
  simp (disch := first | omega | (simp only [Wx]; done) | (simp only [Wy]; done) | (simp only [Wv]; omega) | with_unfolding_all rfl) only [Wz, ptrTo, sliceTo, P_block, P_seq, P_q4, rq4, ev_tmp, ↓T.set_eq, tm_same, tm_ne, hA4, hA6, g43, g63, dec_f (show ¬ (9999 : Int) ≤ r by omega)]
  rcases Nat.lt_or_ge L.length 4096 with hl | hl
  · have hne : ¬ ((L.length : Int) = 4096) := by omega
    simp (disch := first | omega | (simp only [Wx]; done) | (simp only [Wy]; done) | (simp only [Wv]; omega) | with_unfolding_all rfl) only [Wz, ptrTo, sliceTo, ↓gO_eq, ↓T.set_eq, tm_same, tm_ne, wB_ff, gB_t, dec_f hne, P_cond, cK_f, P_skip, sK_n, P_q5, rq5, ev_tmp, hA6, g63, gn3]
    obtain ⟨h5, e5⟩ : ∃ h5 : Heap, h5 = ⟨h3.nx + 1, h3.bl.upd h3.nx (cellsO [.int .i64 k, .int .i64 w] 46 false), h3.lo⟩ := ⟨_, rfl⟩
    have le5 : Le a h5 := by rw [e5]; exact le3.new _
    have le35 : Le h3 h5 := by rw [e5]; exact (Le.refl h3).new _
    have nx5 : h5.nx = h3.nx + 1 := by rw [e5]
    have l5 : h5.lo = h3.lo := by rw [e5]
    have gx5 : h5.bl.get h3.nx = some (cellsO ([(k, w)].flatMap encP) 46 false) := by rw [e5]; exact T.get_upd_same _ _ _
    have g45 := (le35.get _ (by omega)).trans g43
    have g65 := (le35.get _ (by omega)).trans g63
    have gt5 := (le35.get _ (by omega)).trans gt3
    have gw5 := (le35.get _ (by omega)).trans gw3
    have gl5 := (le35.get _ (by omega)).trans gl3
    have ho5 : OwnP a h5 (.slice x' L.length c') L := ho3.le le35
    rw [← e5]
    clear e5
    refine append_in (enc := encP) (a := a) (L := L) (M := [(k, w)]) encP_len encP_one (by decide) (by decide) ho5 (Sl.new (by omega) gx5 _) le5 (by simp; omega) (by omega) _ ?_
    intro v' h6 ho6 le6 _ n6 l6 same6
    have g46 := (same6 _ (by omega) (by rw [g45]; exact cells_op)).trans g45
    have g66 := (same6 _ (by omega) (by rw [g65]; exact cells_op)).trans g65
    have gt6 := (same6 _ (by omega) (by rw [gt5]; exact cells_op)).trans gt5
    have gw6 := (same6 _ (by omega) (by rw [gw5]; exact cells_op)).trans gw5
    have gl6 := (same6 _ (by omega) (by rw [gl5]; intro hc; unfold cellsO at hc; cases hc)).trans gl5
    obtain ⟨x6, c6, rfl, _⟩ := (show Sl encP h6 v' _ from ho6.sl)
    simp (disch := first | omega | (simp only [Wx]; done) | (simp only [Wy]; done) | (simp only [Wv]; omega) | with_unfolding_all rfl) only [Wz, ptrTo, sliceTo, g66]
    obtain ⟨h7, e7⟩ : ∃ h7 : Heap, h7 = ⟨h6.nx, h6.bl.upd (a.nx + 1) (cellsO [.slice x6 (L ++ [(k, w)]).length c6] 24 false), h6.lo⟩ := ⟨_, rfl⟩
    have le7 : Le a h7 := by rw [e7]; exact le6.set (by omega) _
    have nx7 : h7.nx = h6.nx := by rw [e7]
    have l7 : h7.lo = h6.lo := by rw [e7]
    have gl7 : h7.bl.get (a.nx + 4) = some (loopB .busy none tmA) := by rw [e7]; exact (T.get_updne _ _ (by omega)).trans gl6
    have g47 : h7.bl.get a.nx = some (cellsO [.int .i64 9999] 3 false) := by rw [e7]; exact (T.get_updne _ _ (by omega)).trans g46
    have g67 : h7.bl.get (a.nx + 1) = some (cellsO [.slice x6 (L ++ [(k, w)]).length c6] 24 false) := by rw [e7]; exact T.get_upd_same _ _ _
    have gt7 : h7.bl.get (a.nx + 2) = some (cellsO [.int .i64 8] 3 false) := by rw [e7]; exact (T.get_updne _ _ (by omega)).trans gt6
    have gw7 : h7.bl.get (a.nx + 3) = some (cellsO [.slice none 0 0] 31 false) := by rw [e7]; exact (T.get_updne _ _ (by omega)).trans gw6
    have ho7 : OwnP a h7 (.slice x6 (L ++ [(k, w)]).length c6) (L ++ [(k, w)]) := by rw [e7]; exact Own.put ho6 (by rw [g66]; exact cells_op) _
    rw [← e7, bK_n, end_n gl7 (by omega)]
    clear e7
    exact hk hl _ _ ⟨le7.set (by omega) _, by show a.nx + 5 ≤ h7.nx; omega, (T.get_updne _ _ (by omega)).trans g47, (T.get_updne _ _ (by omega)).trans g67, (T.get_updne _ _ (by omega)).trans gt7, (T.get_updne _ _ (by omega)).trans gw7, T.get_upd_same _ _ _, Own.put ho7 (by rw [gl7]; intro hc; unfold cellsO at hc; cases hc) _⟩
  · have hE : L.length = 4096 := by omega
    have heq : (L.length : Int) = 4096 := by omega
    simp (disch := first | omega | (simp only [Wx]; done) | (simp only [Wy]; done) | (simp only [Wv]; omega) | with_unfolding_all rfl) only [Wz, ptrTo, sliceTo, ↓gO_eq, ↓T.set_eq, tm_same, tm_ne, wB_ff, gB_t, dec_t heq, sK_n, P_cond, cK_t, P_exit, sK_e, bK_10]
    rw [end_e gl3 (by omega)]
    refine hd hE _ ⟨le3.set (by omega) _, by show a.nx + 5 ≤ h3.nx; omega, (T.get_updne _ _ (by omega)).trans g43, (T.get_updne _ _ (by omega)).trans g63, (T.get_updne _ _ (by omega)).trans gt3, (T.get_updne _ _ (by omega)).trans gw3, T.get_upd_same _ _ _, Own.put ho3 (by rw [gl3]; intro hc; unfold cellsO at hc; cases hc) _⟩
end Go.Proofs

namespace Go.Proofs
open Go.Vai
/-! ## the rounds -/
theorem YI.mono {a : Heap} {o : AObj} {h h' : Heap} {v : Value} {L : List (Int × Int)} (I : YI a o h v L) (le : Le h h') : YI a o h' v L := by
  have n1 := I.nx
  have n2 := le.nx
  exact ⟨I.le.trans le, by omega, (le.get _ (by omega)).trans I.g4, (le.get _ (by omega)).trans I.g6, (le.get _ (by omega)).trans I.gt, (le.get _ (by omega)).trans I.gw, (le.get _ (by omega)).trans I.gl, I.own.le le⟩
structure TI (a : Heap) (tm : T Value) (r s : Int) : Prop where
  t0 : tmv tm 0 = .func (.yield (a.nx + 4)) #[] #[]
  t1 : tmv tm 1 = ptrTo (a.nx + 2)
  t2 : tmv tm 2 = ptrTo (a.nx + 3)
  t4 : tmv tm 4 = .int .i64 s
  t5 : tmv tm 5 = .int .i64 r
section
variable {a : Heap} (hlo : a.lo ≤ a.nx) {tmA : T Value} (hA4 : tmv tmA 4 = ptrTo a.nx) (hA6 : tmv tmA 6 = ptrTo (a.nx + 1)) {h : Heap} {v : Value} {L : List (Int × Int)} (I : YI a (loopB .ready none tmA) h v L)
  {tm : T Value} {r s : Int} (Q : TI a tm r s) (h0 : 0 ≤ r) (h1 : r < 9999) (hL : L.length ≤ 4096) (κ : Ex → T Value → Heap → Prop)
include hlo hA4 hA6 I Q h0 h1 hL
theorem in_step (k : Nat) {i : Int} (hi0 : 0 ≤ i) (hi : i < 8) (hs0 : 0 ≤ s) (hs : s < 100000) (t11 : tmv tm 11 = .int .i64 8) (t12 : tmv tm 12 = .int .i64 i)
    (hk : ∀ tm' h' v', L.length < 4096 → YI a (loopB .ready none tmA) h' v' (L ++ [(1, 0)]) → TI a tm' r (s + 1) → tmv tm' 11 = .int .i64 8 → tmv tm' 12 = .int .i64 (i + 1) → RP (k + 31) (.loop inB) tm' h' κ)
    (hd : ∀ tm' h' v' L', L'.length = 4096 → YI a (loopB .done (some (.exit 0)) tmA) h' v' L' → κ .ret tm' h') : RP (k + 32) (.loop inB) tm h κ := by
  have n1 := I.nx
  have l1 := I.le.lo
  have gw := I.gw
  rw [show k + 32 = k + 31 + 1 from rfl, P_loop]
  simp (disch := first | omega | (simp only [Wx]; done) | (simp only [Wy]; done) | (simp only [Wv]; omega) | with_unfolding_all rfl) only [Wz, ptrTo, sliceTo, P_seq, P_r5, rr5, ev_tmp, T.set_eq, tm_same, tm_ne, t11, t12, dec_t hi, sK_n, P_cond, cK_t, P_skip, P_block, P_r6, rr6]
  obtain ⟨h2, e_h2⟩ : ∃ h2 : Heap, h2 = ⟨h.nx + 1, (h.bl.upd (h.nx) (cellsO [.int .i64 1, .int .i64 0] 46 false)), h.lo⟩ := ⟨_, rfl⟩
  have le_h2 : Le h h2 := by subst e_h2; exact ((Le.refl h).new _)
  have g2 : h2.bl.get (h.nx) = some (cellsO [.int .i64 1, .int .i64 0] 46 false) := by subst e_h2; exact T.get_upd_same _ _ _
  have n_h2 : h2.nx = h.nx + 1 := by subst e_h2; rfl
  have l_h2 : h2.lo = h.lo := by subst e_h2; rfl
  rw [← e_h2]
  clear e_h2
  have gw2 := (le_h2.get _ (by omega)).trans gw
  simp (disch := first | omega | (simp only [Wx]; done) | (simp only [Wy]; done) | (simp only [Wv]; omega) | with_unfolding_all rfl) only [Wz, ptrTo, sliceTo, P_r7, rr7, ev_tmp, T.set_eq, tm_same, tm_ne, Q.t2, gw2, sK_n, P_cond, cK_f, P_skip, P_seq, P_r9, rr9, Q.t4, P_r10, rr10, Q.t0, Q.t5, g2]
  refine yield_w hlo hA4 hA6 (I.mono le_h2) _ r 1 0 h0 h1 hL _ ?_ ?_
  · intro hl h3 v3 I3
    simp (disch := first | omega | (simp only [Wx]; done) | (simp only [Wy]; done) | (simp only [Wv]; omega) | with_unfolding_all rfl) only [Wz, ptrTo, sliceTo, T.set_eq, ev_tmp, tm_same, tm_ne, sK_n, P_cond, cK_f, P_skip, bK_n, P_r11, rr11, t12]
    refine hk _ _ _ hl I3 ⟨?_, ?_, ?_, ?_, ?_⟩ ?_ ?_
    all_goals simp (disch := decide) only [tm_ne, tm_same, Q.t0, Q.t1, Q.t2, Q.t4, Q.t5, t11]
  · intro hl h3 I3
    simp (disch := first | omega | (simp only [Wx]; done) | (simp only [Wy]; done) | (simp only [Wv]; omega) | with_unfolding_all rfl) only [Wz, ptrTo, sliceTo, T.set_eq, ev_tmp, tm_same, tm_ne, sK_n, P_cond, cK_t, P_ret, sK_r, bK_r]
    exact hd _ _ _ _ hl I3
omit hlo hA4 hA6 I Q h0 h1 hL in
theorem in_exit (k : Nat) (t11 : tmv tm 11 = .int .i64 8) (t12 : tmv tm 12 = .int .i64 8) (hk : κ (.exit 2) (tm.upd 13 (.bool false)) h) : RP (k + 32) (.loop inB) tm h κ := by
  rw [show k + 32 = k + 31 + 1 from rfl, P_loop]
  simp (disch := first | omega | (simp only [Wx]; done) | (simp only [Wy]; done) | (simp only [Wv]; omega) | with_unfolding_all rfl) only [Wz, ptrTo, sliceTo, P_seq, P_r5, rr5, ev_tmp, T.set_eq, tm_same, tm_ne, t11, t12, sK_n, P_cond, cK_f, P_exit, sK_e]
  exact hk
end
theorem in_loop {a : Heap} (hlo : a.lo ≤ a.nx) {tmA : T Value} (hA4 : tmv tmA 4 = ptrTo a.nx) (hA6 : tmv tmA 6 = ptrTo (a.nx + 1)) {r : Int} (h0 : 0 ≤ r) (h1 : r < 9999) (κ : Ex → T Value → Heap → Prop) (n N : Nat)
    (hk : ∀ tm' h' v' L', L'.length = N → L'.length ≤ 4096 → YI a (loopB .ready none tmA) h' v' L' → TI a tm' r (r * 8 + 8) → κ (.exit 2) tm' h')
    (hd : ∀ tm' h' v' L', L'.length = 4096 → YI a (loopB .done (some (.exit 0)) tmA) h' v' L' → κ .ret tm' h') (hr : r ≤ 1000) :
    ∀ (j : Nat) (i : Int), i + j = 8 → 0 ≤ i → ∀ (tm : T Value) (h : Heap) (v : Value) (L : List (Int × Int)), YI a (loopB .ready none tmA) h v L → TI a tm r (r * 8 + i) → L.length ≤ 4096 → L.length + j = N → tmv tm 11 = .int .i64 8 → tmv tm 12 = .int .i64 i → RP (n + j + 32) (.loop inB) tm h κ := by
  intro j
  induction j with
  | zero =>
    intro i e hi tm h v L I Q hL hN t11 t12
    obtain rfl : i = 8 := by omega
    refine in_exit κ _ t11 t12 (hk _ _ _ L (by omega) hL I ⟨?_, ?_, ?_, ?_, ?_⟩)
    all_goals simp (disch := decide) only [tm_ne, tm_same, Q.t0, Q.t1, Q.t2, Q.t4, Q.t5]
  | succ j ih =>
    intro i e hi tm h v L I Q hL hN t11 t12
    refine in_step hlo hA4 hA6 I Q h0 h1 hL κ _ hi (by omega) (by omega) (by omega) t11 t12 (fun tm' h' v' hl I' Q' e1 e2 => ?_) hd
    have := ih (i + 1) (by omega) (by omega) tm' h' v' (L ++ [(1, 0)]) I' (by rw [show r * 8 + (i + 1) = r * 8 + i + 1 from by omega]; exact Q') (by simp; omega) (by simp; omega) e1 e2
    rw [show n + (j + 1) + 31 = n + j + 32 from by omega]
    exact this
end Go.Proofs

namespace Go.Proofs
open Go.Vai
theorem out_loop {a : Heap} (hlo : a.lo ≤ a.nx) {tmA : T Value} (hA4 : tmv tmA 4 = ptrTo a.nx) (hA6 : tmv tmA 6 = ptrTo (a.nx + 1)) (κ : Ex → T Value → Heap → Prop) (n : Nat)
    (hd : ∀ tm' h' v' L', L'.length = 4096 → YI a (loopB .done (some (.exit 0)) tmA) h' v' L' → κ .ret tm' h') :
    ∀ (d : Nat) (r : Int), r + d = 409 → 0 ≤ r → ∀ (tm : T Value) (h : Heap) (v : Value) (L : List (Int × Int)), YI a (loopB .ready none tmA) h v L → TI a tm r (r * 8) → (L.length : Int) = 10 * r → RP (n + d + 60) (.loop outB) tm h κ := by
  intro d
  induction d with
  | zero =>
    intro r e hr tm h v L I Q hL
    obtain rfl : r = 409 := by omega
    have n1 := I.nx
    have l1 := I.le.lo
    have gt := I.gt
    rw [show n + 0 + 60 = n + 59 + 1 from rfl, P_loop]
    simp (disch := first | omega | (simp only [Wx]; done) | (simp only [Wy]; done) | (simp only [Wv]; omega) | with_unfolding_all rfl) only [Wz, ptrTo, sliceTo, P_seq, P_r2, rr2, ev_tmp, T.set_eq, tm_same, tm_ne, Q.t1, gt, sK_n, P_cond, cK_t, P_skip, P_block, P_r4, rr4]
    refine in_loop hlo hA4 hA6 (r := 409) (by decide) (by decide) _ (n + 13) 4098 (fun tm' h' v' L' e1 e2 => by omega) ?_ (by decide) 8 0 (by decide) (by decide) _ h v L I ⟨?_, ?_, ?_, ?_, ?_⟩ (by omega) (by omega) ?_ ?_
    · intro tm' h' v' L' e1 I'
      simp (disch := first | omega | (simp only [Wx]; done) | (simp only [Wy]; done) | (simp only [Wv]; omega) | with_unfolding_all rfl) only [Wz, ptrTo, sliceTo, bK_r, sK_r]
      exact hd _ _ _ _ e1 I'
    all_goals simp (disch := decide) only [tm_ne, tm_same, Q.t0, Q.t1, Q.t2, Q.t4, Q.t5]
    rfl
  | succ d ih =>
    intro r e hr tm h v L I Q hL
    have n1 := I.nx
    have l1 := I.le.lo
    have gt := I.gt
    rw [show n + (d + 1) + 60 = n + d + 60 + 1 from by omega, P_loop]
    simp (disch := first | omega | (simp only [Wx]; done) | (simp only [Wy]; done) | (simp only [Wv]; omega) | with_unfolding_all rfl) only [Wz, ptrTo, sliceTo, P_seq, P_r2, rr2, ev_tmp, T.set_eq, tm_same, tm_ne, Q.t1, gt, sK_n, P_cond, cK_t, P_skip, P_block, P_r4, rr4]
    refine in_loop hlo hA4 hA6 (r := r) hr (by omega) _ (n + d + 14) (L.length + 8) ?_ ?_ (by omega) 8 0 (by decide) (by decide) _ h v L I ⟨?_, ?_, ?_, ?_, ?_⟩ (by omega) rfl ?_ ?_
    · intro tm1 h1 v1 L1 e1 e2 I1 Q1
      have n2 := I1.nx
      simp (disch := first | omega | (simp only [Wx]; done) | (simp only [Wy]; done) | (simp only [Wv]; omega) | with_unfolding_all rfl) only [Wz, ptrTo, sliceTo, bK_e2, sK_n, P_seq, P_r12, rr12, ev_tmp, T.set_eq, tm_same, tm_ne, Q1.t0, Q1.t5]
      refine yield_w hlo hA4 hA6 I1 _ r 2 1 hr (by omega) e2 _ ?_ (fun hx => by omega)
      intro hl2 h2 v2 I2
      simp (disch := first | omega | (simp only [Wx]; done) | (simp only [Wy]; done) | (simp only [Wv]; omega) | with_unfolding_all rfl) only [Wz, ptrTo, sliceTo, ↓gO_eq, ↓T.set_eq, ev_tmp, tm_same, tm_ne, wB_ff, gB_t, Q1.t0, Q1.t5]
      refine yield_w hlo hA4 hA6 I2 _ r 4 0 hr (by omega) (by simp; omega) _ ?_ (fun hx => by simp at hx; omega)
      intro hl3 h3 v3 I3
      simp (disch := first | omega | (simp only [Wx]; done) | (simp only [Wy]; done) | (simp only [Wv]; omega) | with_unfolding_all rfl) only [Wz, ptrTo, sliceTo, ↓gO_eq, ↓T.set_eq, ev_tmp, tm_same, tm_ne, wB_ff, gB_t, sK_n, P_cond, cK_f, P_skip, bK_n, P_r3, rr3, Q1.t5]
      refine ih (r + 1) (by omega) (by omega) _ _ v3 (L1 ++ [(2, 1)] ++ [(4, 0)]) I3 ⟨?_, ?_, ?_, ?_, ?_⟩ (by simp; omega)
      all_goals simp (disch := decide) only [tm_ne, tm_same, Q1.t0, Q1.t1, Q1.t2, Q1.t4, Q1.t5]
      rw [show (r + 1) * 8 = r * 8 + 8 from by omega]
    · intro tm' h' v' L' e1 I'
      simp (disch := first | omega | (simp only [Wx]; done) | (simp only [Wy]; done) | (simp only [Wv]; omega) | with_unfolding_all rfl) only [Wz, ptrTo, sliceTo, bK_r, sK_r]
      exact hd _ _ _ _ e1 I'
    all_goals simp (disch := decide) only [tm_ne, tm_same, Q.t0, Q.t1, Q.t2, Q.t4, Q.t5]
    rw [show r * 8 + 0 = r * 8 from by omega]
theorem rounds_w (t : Int) (h : Heap) (κ : Value → Heap → Prop) (hk : κ (.func (.func fR) ⟨[]⟩ ⟨[ptrTo h.nx, ptrTo (h.nx + 1)]⟩) ⟨h.nx + 1 + 1, (h.bl.upd h.nx (cellsO [.int .i64 t] 3 false)).upd (h.nx + 1) (cellsO [.slice none 0 0] 31 false), h.lo⟩) : CallW Tryz.prog fN [.int .i64 t, .slice none 0 0] h κ := by
  refine callW_of mixed ?_
  rw [rs_21]
  simp (disch := first | omega | (simp only [Wx]; done) | (simp only [Wy]; done) | (simp only [Wv]; omega) | with_unfolding_all rfl) only [Wz, ptrTo, sliceTo]
  exact hk
theorem picks_w (a : Heap) (hlo : a.lo ≤ a.nx) (κ : Value → Heap → Prop) (hk : ∀ b h' (L : List (Int × Int)), L.length = 4096 → a.nx ≤ b → b < h'.nx → h'.bl.get b = some (cellsO (L.flatMap encP) 46 true) → Le a h' → κ (.slice (some ⟨b, 0, none⟩) 4096 openCap) h') :
    CallW Tryz.prog fP [.int .i64 8, .int .i64 9999, .slice none 0 0] a κ := by
  refine callW_run mixed (skip := skipP) 600 ?_
  rw [callP, cP_eq, lay3]
  simp (disch := first | omega | (simp only [Wx]; done) | (simp only [Wy]; done) | (simp only [Wv]; omega) | with_unfolding_all rfl) only [Wz, ptrTo, sliceTo, P_seq, P_q0, rq0, ev_tmp, T.set_eq, tm_same, tm_ne, sK_n, P_q1, rq1]
  obtain ⟨h2, e_h2⟩ : ∃ h2 : Heap, h2 = ⟨a.nx + 1 + 1, ((a.bl.upd (a.nx) (cellsO [.int .i64 9999] 3 false)).upd (a.nx + 1) (cellsO [.slice none 0 0] 24 false)), a.lo⟩ := ⟨_, rfl⟩
  have le_h2 : Le a h2 := by subst e_h2; exact (((Le.refl a).new _).new _)
  have g4 : h2.bl.get (a.nx) = some (cellsO [.int .i64 9999] 3 false) := by subst e_h2; exact (T.get_updne _ _ (by omega)).trans (T.get_upd_same _ _ _)
  have g6 : h2.bl.get (a.nx + 1) = some (cellsO [.slice none 0 0] 24 false) := by subst e_h2; exact T.get_upd_same _ _ _
  have n_h2 : h2.nx = a.nx + 1 + 1 := by subst e_h2; rfl
  have l_h2 : h2.lo = a.lo := by subst e_h2; rfl
  rw [← e_h2]
  clear e_h2
  refine rounds_w 8 h2 _ ?_
  simp (disch := first | omega | (simp only [Wx]; done) | (simp only [Wy]; done) | (simp only [Wv]; omega) | with_unfolding_all rfl) only [Wz, ptrTo, sliceTo, T.set_eq, sK_n, P_block, P_rf, tm_same, tm_ne]
  generalize htm : ((((((((T.nil : T Value).upd 0 (Value.int .i64 8)).upd 1 (Value.int .i64 9999)).upd 2 (Value.slice none 0 0)).upd 4 (Value.pointer (some ⟨a.nx, 0, none⟩))).upd 6 (Value.pointer (some ⟨a.nx + 1, 0, none⟩))).upd 9 (Value.int .i64 8)).upd 10 (Value.slice none 0 0)).upd 11 _ = tmA
  have hA4 : tmv tmA 4 = ptrTo a.nx := by rw [← htm]; simp (disch := decide) only [tm_ne, tm_same]; rfl
  have hA6 : tmv tmA 6 = ptrTo (a.nx + 1) := by rw [← htm]; simp (disch := decide) only [tm_ne, tm_same]; rfl
  clear htm
  rw [rf_eq]
  have e2 : h2.nx = a.nx + 2 := by omega
  simp only [e2]
  obtain ⟨h3, e3⟩ : ∃ h3 : Heap, h3 = ⟨a.nx + 2 + 1 + 1 + 1, ((h2.bl.upd (a.nx + 2) (cellsO [.int .i64 8] 3 false)).upd (a.nx + 2 + 1) (cellsO [.slice none 0 0] 31 false)).upd (a.nx + 2 + 1 + 1) (loopB .ready none tmA), h2.lo⟩ := ⟨_, rfl⟩
  have I : YI a (loopB .ready none tmA) h3 (.slice none 0 0) [] := by
    rw [e3]
    refine ⟨?_, by show a.nx + 5 ≤ a.nx + 2 + 1 + 1 + 1; omega, (T.get_updne _ _ (by omega)).trans ((T.get_updne _ _ (by omega)).trans ((T.get_updne _ _ (by omega)).trans g4)), (T.get_updne _ _ (by omega)).trans ((T.get_updne _ _ (by omega)).trans ((T.get_updne _ _ (by omega)).trans g6)), (T.get_updne _ _ (by omega)).trans ((T.get_updne _ _ (by omega)).trans (T.get_upd_same _ _ _)), (T.get_updne _ _ (by omega)).trans (T.get_upd_same _ _ _), T.get_upd_same _ _ _, .inl ⟨rfl, .inl rfl⟩⟩
    exact ⟨by show a.nx ≤ a.nx + 2 + 1 + 1 + 1; omega, le_h2.lo, fun b hb => (T.get_updne _ _ (by omega)).trans ((T.get_updne _ _ (by omega)).trans ((T.get_updne _ _ (by omega)).trans (le_h2.get b hb)))⟩
  rw [← e3, callR, cR_eq, lay3]
  clear e3
  simp (disch := first | omega | (simp only [Wx]; done) | (simp only [Wy]; done) | (simp only [Wv]; omega) | with_unfolding_all rfl) only [Wz, ptrTo, sliceTo, P_seq, P_r0, rr0, P_r1, rr1, T.set_eq, sK_n, P_block]
  refine out_loop hlo hA4 hA6 _ 123 ?_ 409 0 (by decide) (by decide) _ h3 _ [] I ⟨?_, ?_, ?_, ?_, ?_⟩ rfl
  · intro tm' h' v' L' e1 I'
    have n1 := I'.nx
    have l1 := I'.le.lo
    rw [bK_r, end0, after_e I'.gl (by omega), bK_e0, sK_n]
    have g6' : (h'.bl.upd (a.nx + 4) (loopB .exhausted (some (.exit 0)) tmA)).get (a.nx + 1) = some (cellsO [v'] 24 false) := (T.get_updne _ _ (by omega)).trans I'.g6
    rcases I'.own with ⟨rfl, _⟩ | ⟨b, rfl, hb1, hb2, hb3, hb4⟩
    · cases e1
    · simp (disch := first | omega | (simp only [Wx]; done) | (simp only [Wy]; done) | (simp only [Wv]; omega) | with_unfolding_all rfl) only [Wz, ptrTo, sliceTo, P_seq, P_q6, rq6, ev_tmp, T.set_eq, tm_same, tm_ne, hA6, g6', sK_n, P_ret, sK_r, endP]
      have hb5 : a.nx + 4 ≠ b := by
        rintro rfl
        have := hb4.symm.trans I'.gl
        unfold cellsO at this
        cases this
      have hb6 : a.nx + 1 ≠ b := by
        rintro rfl
        exact absurd (I'.g6.symm.trans hb4).symm (fun e => cells_op e.symm)
      rw [e1]
      exact hk b _ L' e1 hb1 hb2 ((T.get_updne _ _ hb6).trans ((T.get_updne _ _ hb5).trans hb4)) ((I'.le.set (b := a.nx + 4) (by omega) _).set (b := a.nx + 1) (by omega) _)
  all_goals simp (disch := decide) only [tm_ne, tm_same]
  all_goals rfl
end Go.Proofs

namespace Go.Vai
open Go
variable {β : Type} {fl : β} {good : β → Prop} {P : Program} {φ : Emb} {h : Heap} {w : World}

/-- what such a call hands back: a value, or a slice of a block of its own; and how far the blocks' numbers have come -/
inductive PRes where
  | bad
  | val (v : Value) (nx : Nat)
  | row (n off cap : Nat) (e : TypeId) (op : Bool) (cs : List Value) (nx : Nat)

noncomputable def maxK (a b : Nat) (κ : Nat → PRes) : PRes := match Nat.ble a b with | true => κ b | false => κ a
noncomputable def bothP (x y : PRes) : PRes :=
  match x, y with
  | .val v a, .val v' b => match veq 8 v v' with
    | true => maxK a b fun n => .val v n
    | false => .bad
  | .row n o c e op cs a, .row n' o' c' e' op' cs' b => match Nat.beq n n' && Nat.beq o o' && Nat.beq c c' && Nat.beq e e' && (op == op') && veqL (veq 8) cs cs' with
    | true => maxK a b fun nx => .row n o c e op cs nx
    | false => .bad
  | _, _ => .bad

/-- the end of such a call -/
noncomputable def endP (nx0 : Nat) (v : Value) (h : Heap) : PRes :=
  match v with
  | .slice (some ⟨b, o, none⟩) n cap => match Nat.ble nx0 b && !Nat.beq cap anyCap with
    | true => match h.bl.get b with
      | some (.cells nn c e op) => loadN .bad c 0 nn [] fun l => .row n o cap e op l h.nx
      | _ => .bad
    | false => .val v h.nx
  | v => .val v h.nx

noncomputable def pureB (fl : β) (pr : Prims PRes) (P : Program) (fuel : Nat) (f : FuncId) (args : List Value) (h : Heap) (κ : Value → Heap → β) : β :=
  match callF .bad pr P (run .bad pr P fuel) f args ⟨h.nx, h.bl, h.nx⟩ (endP h.nx) with
  | .bad => fl
  | .val v nx => match Nat.ble nx 1000000000000 with
    | true => κ v ⟨nx, h.bl, h.lo⟩
    | false => fl
  | .row n o cap e op cs nx => match Nat.ble nx 1000000000000, Nat.ble cs.length 1000000000000 with
    | true, true => layN cs .nil 0 fun c m => T.set h.bl nx (.cells m c e op) fun bl => fnK (Nat.succ nx) fun nx' => κ (.slice (some ⟨nx, o, none⟩) n cap) ⟨nx', bl, h.lo⟩
    | _, _ => fl

def goodP : PRes → PRes → Prop
  | .bad => fun _ => False
  | .val v N => fun r => ∃ nx, r = .val v nx ∧ nx ≤ N
  | .row n o c e op cs N => fun r => ∃ nx, r = .row n o c e op cs nx ∧ nx ≤ N

theorem goodP_bad (r0 : PRes) : ¬ goodP r0 .bad := by
  intro hh
  cases r0 <;> first | exact hh.elim | (obtain ⟨m, e1, _⟩ := hh; cases e1)

theorem maxK_eq (a b : Nat) (κ : Nat → PRes) : ∃ n, maxK a b κ = κ n ∧ a ≤ n ∧ b ≤ n := by
  unfold maxK
  cases hb : Nat.ble a b with
  | true => exact ⟨b, rfl, ble_t hb, Nat.le_refl _⟩
  | false => exact ⟨a, rfl, Nat.le_refl _, by have := ble_f hb; omega⟩

theorem bothP_good (r0 x y : PRes) (hg : goodP r0 (bothP x y)) : goodP r0 x ∧ goodP r0 y := by
  unfold bothP at hg
  split at hg
  · rename_i v a v' b
    split at hg
    · rename_i hv
      have hv := veq_eq 8 _ _ hv
      subst hv
      obtain ⟨n, e, h1, h2⟩ := maxK_eq a b fun n => .val v n
      rw [e] at hg
      cases r0 with
      | bad => exact hg.elim
      | val u N =>
        obtain ⟨m, e1, e2⟩ := hg
        cases e1
        exact ⟨⟨a, rfl, by omega⟩, ⟨b, rfl, by omega⟩⟩
      | row => obtain ⟨m, e1, e2⟩ := hg; cases e1
    · cases r0 <;> first | exact hg.elim | (obtain ⟨m, e1, _⟩ := hg; cases e1)
  · rename_i n o c e op cs a n' o' c' e' op' cs' b
    split at hg
    · rename_i hv
      simp only [Bool.and_eq_true] at hv
      obtain ⟨⟨⟨⟨⟨h1, h2⟩, h3⟩, h4⟩, h5⟩, h6⟩ := hv
      have h1 := beq_t h1; have h2 := beq_t h2; have h3 := beq_t h3; have h4 := beq_t h4
      have h5 : op = op' := by simpa using h5
      have h6 := veqL_eq (veq_eq 8) _ _ h6
      subst h1; subst h2; subst h3; subst h4; subst h5; subst h6
      obtain ⟨m, e0, k1, k2⟩ := maxK_eq a b fun nx => .row n o c e op cs nx
      rw [e0] at hg
      cases r0 with
      | bad => exact hg.elim
      | val => obtain ⟨m, e1, e2⟩ := hg; cases e1
      | row =>
        obtain ⟨m, e1, e2⟩ := hg
        cases e1
        exact ⟨⟨a, rfl, by omega⟩, ⟨b, rfl, by omega⟩⟩
    · cases r0 <;> first | exact hg.elim | (obtain ⟨m, e1, _⟩ := hg; cases e1)
  · cases r0 <;> first | exact hg.elim | (obtain ⟨m, e1, _⟩ := hg; cases e1)

/-- what lay before lies as it lay -/
theorem HR.behind {φ' : Emb} {h' : Heap} {w' : World} (hr : HR P φ h w) (hr' : HR P φ' h' w') (hx : Ext φ φ' ⟨h.nx, h.bl, h.nx⟩ h' w w') {nx : Nat} (hn : h'.nx ≤ nx) (hs : nx ≤ 1000000000000) :
    HR P φ' ⟨nx, h.bl, h.lo⟩ w' ∧ Ext φ φ' h ⟨nx, h.bl, h.lo⟩ w w' := by
  have hnx : h.nx ≤ h'.nx := hx.nx
  have same : ∀ b o pl, h.bl.get b = some o → φ' b = some pl → b < h.nx ∧ h'.bl.get b = some o := by
    intro b o pl hb hp
    have h1 := (hr'.dom b pl hp).1
    have hlt := hr.keys b o (by unfold Small; omega) hb
    exact ⟨hlt, by rw [hx.frL b hlt]; exact hb⟩
  refine ⟨⟨?_, ?_, ?_, ?_, ?_, ?_⟩, ⟨hx.sub, hx.new, Nat.le_trans hnx hn, hx.size, hx.frC, fun _ _ _ => rfl, hx.tape, hx.os, hx.output, hx.fz, rfl, fun _ _ => rfl, fun b o pl hb => hx.frW b o pl (Nat.lt_of_lt_of_le hb hr.lo), hx.dr⟩⟩
  · intro b o pl hb hp; exact hr'.obj b o pl (same b o pl hb hp).2 hp
  · intro b pl hp; have := hr'.dom b pl hp; exact ⟨Nat.lt_of_lt_of_le this.1 hn, this.2⟩
  · intro b o hsb hb; exact Nat.lt_of_lt_of_le (hr.keys b o hsb hb) (Nat.le_trans hnx hn)
  · exact Nat.lt_succ_self _
  · intro b b' o o' pl pl' g1 g2 l1 l2 p1 p2 e
    exact hr'.inj b b' o o' pl pl' (same b o pl g1 p1).2 (same b' o' pl' g2 p2).2 l1 l2 p1 p2 e
  · exact Nat.le_trans hr.lo (Nat.le_trans hnx hn)

/-- and a block of the call's own gets a name -/
theorem HR.behindRow {φ' : Emb} {h' : Heap} {w' : World} (hr : HR P φ h w) (hr' : HR P φ' h' w') (hx : Ext φ φ' ⟨h.nx, h.bl, h.nx⟩ h' w w') {nx : Nat} (hn : h'.nx ≤ nx) (hs : nx ≤ 1000000000000)
    {b nn e : Nat} {c : T Value} {op : Bool} {pl : Pl} (hb : h'.bl.get b = some (.cells nn c e op)) (hp : φ' b = some pl) (hnb : h.nx ≤ b) {cs : List Value} (hl : cs.length = nn) (hls : nn ≤ 1000000000000) (hc : ∀ j v, cs[j]? = some v → c.get j = some v) :
    HR P (addPl φ' nx pl) ⟨nx + 1, h.bl.upd nx (.cells nn (lay cs .nil 0) e op), h.lo⟩ w' ∧ Ext φ (addPl φ' nx pl) h ⟨nx + 1, h.bl.upd nx (.cells nn (lay cs .nil 0) e op), h.lo⟩ w w' := by
  obtain ⟨hr1, hx1⟩ := hr.behind hr' hx hn hs
  have hnx : h.nx ≤ h'.nx := hx.nx
  have hnone : φ' nx = none := by
    cases hq : φ' nx with
    | none => rfl
    | some p => have := (hr'.dom _ _ hq).1; omega
  have hsub := addPl_sub (pl := pl) hnone
  have hsn : Small nx := by unfold Small; omega
  have get_ne : ∀ x, x < nx → (h.bl.upd nx (.cells nn (lay cs .nil 0) e op)).get x = h.bl.get x := fun x hx => T.get_upd_ne _ _ hsn (by unfold Small; omega) (by omega)
  obtain ⟨C, hC, k1, k2, k3, k4⟩ := hr'.rowAt hb hp
  have hOR : OR P φ' (.cells nn (lay cs .nil 0) e op) pl w'.heap[pl.B]? := by
    rw [hC]
    refine ⟨rfl, rfl, k1, k2, k3, fun i v hg hi => ?_⟩
    rw [get_lay cs .nil 0 (by omega) i (by unfold Small; omega), if_pos (by omega)] at hg
    exact k4 i v (hc i v (by simpa using hg)) hi
  have alone : ∀ x o px, x < nx → h.bl.get x = some o → o.live → φ' x = some px → px.B ≠ pl.B := by
    intro x o px hxn hx0 hlv hpx hB
    have hlt := hr.keys x o (by unfold Small; omega) hx0
    have := hr'.inj x b o _ px pl (by rw [hx.frL x hlt]; exact hx0) hb hlv trivial hpx hp hB
    omega
  constructor
  · refine ⟨?_, ?_, ?_, ?_, ?_, Nat.le_succ_of_le hr1.lo⟩
    · intro x o px hx0 hpx
      unfold addPl at hpx
      split at hpx
      · rename_i he; subst he; cases hpx
        rw [T.get_upd_same] at hx0; cases hx0
        exact hOR.mono hsub
      · have hxn := (hr1.dom x px hpx).1
        exact (hr1.obj x o px ((get_ne x hxn) ▸ hx0) hpx).mono hsub
    · intro x px hpx
      unfold addPl at hpx
      split at hpx
      · rename_i he; subst he; cases hpx; exact ⟨Nat.lt_succ_self _, (hr'.dom b pl hp).2⟩
      · have := hr1.dom x px hpx; exact ⟨Nat.lt_succ_of_lt this.1, this.2⟩
    · intro x o hsx hx0
      show x < nx + 1
      rw [T.get_upd _ _ hsn hsx] at hx0
      split at hx0
      · omega
      · have := hr1.keys x o hsx hx0; exact Nat.lt_succ_of_lt this
    · exact Nat.lt_succ_self _
    · intro x x' o1 o2 p1 p2 g1 g2 l1 l2 e1 e2 eB
      unfold addPl at e1 e2
      split at e1 <;> split at e2
      · omega
      · rename_i q1 q2; cases e1
        have hxn := (hr1.dom x' p2 e2).1
        exact absurd eB.symm (alone x' o2 p2 hxn ((get_ne x' hxn) ▸ g2) l2 e2)
      · rename_i q1 q2; cases e2
        have hxn := (hr1.dom x p1 e1).1
        exact absurd eB (alone x o1 p1 hxn ((get_ne x hxn) ▸ g1) l1 e1)
      · have n1 := (hr1.dom x p1 e1).1
        have n2 := (hr1.dom x' p2 e2).1
        exact hr1.inj x x' o1 o2 p1 p2 ((get_ne x n1) ▸ g1) ((get_ne x' n2) ▸ g2) l1 l2 e1 e2 eB
  · refine ⟨hx1.sub.trans hsub, ?_, Nat.le_succ_of_le hx1.nx, hx1.size, hx1.frC, ?_, hx1.tape, hx1.os, hx1.output, hx1.fz, rfl, ?_, hx1.frW, hx1.dr⟩
    · intro x px e0 e1
      unfold addPl at e1
      split at e1
      · rename_i he; subst he; cases e1
        refine ⟨hx1.nx, ?_⟩
        cases h0 : φ b with
        | some p =>
          have := (hr.dom b p h0).1
          omega
        | none => exact (hx.new b pl h0 hp).2
      · exact hx1.new x px e0 e1
    · intro x hx0 _
      exact get_ne x (Nat.lt_of_lt_of_le hx0 hx1.nx)
    · intro x hx0
      exact get_ne x (Nat.lt_of_lt_of_le hx0 hr1.lo)

theorem pureB_sound (hfl : ¬ good fl) (hm : P.follows .mixedOrders = true) {pr : Prims PRes} (hp : ∀ r0, PrimsOk (goodP r0) pr P) {fuel : Nat} {f : FuncId} (hr : HR P φ h w) {args args' : List Value} (ha : F2 (VR φ) args args')
    {κ : Value → Heap → β} (hg : good (pureB fl pr P fuel f args h κ)) : CallTo good P φ h w κ f args'.toArray := by
  have hb := goodP_bad
  have hrF : HR P φ ⟨h.nx, h.bl, h.nx⟩ w := ⟨hr.obj, hr.dom, hr.keys, hr.nxs, hr.inj, Nat.le_refl _⟩
  have key : ∀ r0, goodP r0 (callF .bad pr P (run .bad pr P fuel) f args ⟨h.nx, h.bl, h.nx⟩ (endP h.nx)) → CallTo (goodP r0) P φ ⟨h.nx, h.bl, h.nx⟩ w (endP h.nx) f args'.toArray := fun r0 hk =>
    callF_sound (hb r0) (hp r0) (run_sound (hb r0) (hp r0) (draw_sound (hb r0) (hp r0) hm) fuel).1 ha hrF hk
  unfold pureB at hg
  split at hg
  · exact absurd hg hfl
  · rename_i v nx he
    split at hg <;> try exact absurd hg hfl
    rename_i hle; have hle := ble_t hle
    have hk := key (.val v nx) (by rw [he]; exact ⟨nx, rfl, Nat.le_refl _⟩)
    refine ⟨hk.1, Calls.mono hk.2 ?_⟩
    rintro e w' ⟨φ', v1, v1', h', rfl, g1, g2, g3, g4⟩
    have hv : v1 = v ∧ h'.nx ≤ nx := by
      obtain ⟨m, e1, e2⟩ := g1
      unfold endP at e1
      split at e1
      · split at e1
        · split at e1
          · rename_i nn c e op _
            obtain ⟨l, k1, _, _⟩ := loadN_good (fl := PRes.bad) (good := fun r => r = .val v m) (by simp) _ _ _ _ _ e1
            cases k1
          · cases e1
        · cases e1; exact ⟨rfl, e2⟩
      · cases e1; exact ⟨rfl, e2⟩
    obtain ⟨rfl, hn⟩ := hv
    obtain ⟨q1, q2⟩ := hr.behind g3 g4 hn hle
    exact ⟨φ', _, _, _, rfl, hg, g2, q1, q2⟩
  · rename_i n o cap e op cs nx he
    split at hg <;> try exact absurd hg hfl
    rename_i hle hll; have hle := ble_t hle; have hll := ble_t hll
    rw [layN_eq, T.set_eq, fnK_eq, Nat.zero_add] at hg
    have hk := key (.row n o cap e op cs nx) (by rw [he]; exact ⟨nx, rfl, Nat.le_refl _⟩)
    refine ⟨hk.1, Calls.mono hk.2 ?_⟩
    rintro e2 w' ⟨φ', v1, v1', h', rfl, g1, g2, g3, g4⟩
    obtain ⟨m, e1, em⟩ := g1
    unfold endP at e1
    split at e1
    · rename_i b o1 n1 cap1
      split at e1
      · rename_i hcond
        simp only [Bool.and_eq_true] at hcond
        have hnb := ble_t hcond.1
        have hany : cap1 ≠ anyCap := by
          have := hcond.2
          intro hh; subst hh
          simp [Nat.beq_refl] at this
        split at e1
        · rename_i nn c e3 op3 hbb
          obtain ⟨l, k1, k2, k3⟩ := loadN_good (fl := PRes.bad) (good := fun r => r = .row n o cap e op cs m) (by simp) _ _ _ _ _ e1
          simp only [List.append_nil] at k1
          cases k1
          have hcs : ∀ j v, cs[j]? = some v → c.get j = some v := fun j v hj => by have := k3 j v hj; simpa using this
          cases g2 with
          | slice hpp hn hc =>
            obtain ⟨q1, q2⟩ := hr.behindRow g3 g4 em hle hbb hpp hnb k2 (by rw [← k2]; exact hll) hcs
            rw [k2] at hg
            exact ⟨_, _, _, _, rfl, hg, .slice (addPl_same _ _ _) hn hc, q1, q2⟩
          | sliceOpen hpp hn hc =>
            obtain ⟨q1, q2⟩ := hr.behindRow g3 g4 em hle hbb hpp hnb k2 (by rw [← k2]; exact hll) hcs
            rw [k2] at hg
            exact ⟨_, _, _, _, rfl, hg, .sliceOpen (addPl_same _ _ _) hn hc, q1, q2⟩
          | sliceAny => exact absurd rfl hany
          | sliceEnd a' hpp hc =>
            obtain ⟨q1, q2⟩ := hr.behindRow g3 g4 em hle hbb hpp hnb k2 (by rw [← k2]; exact hll) hcs
            rw [k2] at hg
            exact ⟨_, _, _, _, rfl, hg, .sliceEnd a' (addPl_same _ _ _) hc, q1, q2⟩
        · cases e1
      · cases e1
    · cases e1
end Go.Vai
