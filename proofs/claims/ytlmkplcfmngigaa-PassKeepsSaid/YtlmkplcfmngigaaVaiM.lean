/-
  PROVED HERE: a part of a calculus of weakest conditions over an abstract heap.
  Rules for closed calls, for slices told as lists, and the law's end. (Program-independent.)
-/
import Derived.Test.YtlmkplcfmngigaaVaiL
set_option linter.unusedVariables false
set_option linter.unusedSimpArgs false
namespace Go.Vai
open Go Go.RowKit
variable {β : Type} {fl : β} {P : Program}

/-! ## a closed call of scalars -/
theorem scal_VR {φ : Emb} {v : Value} (hv : scal v = true) : VR φ v v := by
  cases v <;> first | exact VR.scal hv | (exact VR.agg' (F2.scal hv)) | cases hv
theorem of_scalL {φ : Emb} : ∀ {l l' : List Value}, l.all scal1 = true → F2 (VR φ) l l' → l' = l := by
  intro l
  induction l with
  | nil => intro l' _ h; cases h; rfl
  | cons v l ih =>
    intro l' hs h
    simp only [List.all_cons, Bool.and_eq_true] at hs
    cases h with
    | cons h1 h2 => rw [ih hs.2 h2, VR.of_scal hs.1 h1]
theorem of_scal_VR {φ : Emb} {v v' : Value} (hv : scal v = true) (h : VR φ v v') : v' = v := by
  cases h with
  | agg a a' ha hva =>
    have := of_scalL (l' := a'.toList) hv (F2.of_get ha hva)
    obtain ⟨l⟩ := a; obtain ⟨l'⟩ := a'
    simp only at this; rw [this]
  | bool => rfl
  | int => rfl
  | string => rfl
  | _ => cases hv
theorem scals_VR {φ : Emb} : ∀ {l : List Value}, l.all scal = true → F2 (VR φ) l l := by
  intro l
  induction l with
  | nil => intro _; exact .nil
  | cons v l ih =>
    intro h
    simp only [List.all_cons, Bool.and_eq_true] at h
    exact .cons (scal_VR h.1) (ih h.2)
theorem of_scals {φ : Emb} : ∀ {l l' : List Value}, l.all scal = true → F2 (VR φ) l l' → l' = l := by
  intro l
  induction l with
  | nil => intro l' _ h; cases h; rfl
  | cons v l ih =>
    intro l' hs h
    simp only [List.all_cons, Bool.and_eq_true] at hs
    cases h with
    | cons h1 h2 => rw [ih hs.2 h2, of_scal_VR hs.1 h1]

noncomputable def answersS (P : Program) (n : Nat) (f : FuncId) (args : List Value) (v : Value) : Bool :=
  args.all scal && scal v && callF false noPr P (run false noPr P n) f args ⟨0, .nil, 0⟩ fun v' _ => veq 8 v' v

theorem closedW (hm : P.follows .mixedOrders = true) {n : Nat} {f : FuncId} {args : List Value} {v : Value} (ha : answersS P n f args v = true) {h : Heap} {κ : Value → Heap → Prop} (hk : κ v h) : CallW P f args h κ := by
  intro φ w args' hf hr
  have hfl : ¬ yes false := by simp [yes]
  simp only [answersS, Bool.and_eq_true] at ha
  obtain ⟨⟨ha1, hv⟩, ha2⟩ := ha
  have := of_scals ha1 hf
  subst this
  have hc := callF_sound (good := yes) (w := w) hfl (noPrims (P := P)) (run_sound (good := yes) hfl noPrims (draw_sound hfl noPrims hm) n).1 (scals_VR ha1) (HR.start w) ha2
  refine ⟨hc.1, Calls.mono hc.2 ?_⟩
  rintro e w' ⟨φ', v1, v', h', rfl, g1, g2, g3, g4⟩
  have e1 := veq_eq 8 _ _ g1
  subst e1
  have hfr : ∀ B, B < w.heap.size → w'.heap[B]? = w.heap[B]? := fun B hB => g4.frC B hB fun b pl e => by cases e
  refine ⟨φ, v1, v', h, rfl, hk, by rw [of_scal_VR hv g2]; exact scal_VR hv, ?_, ?_⟩
  · exact ⟨fun b o pl h1 h2 => by rw [hfr _ (hr.dom b pl h2).2]; exact hr.obj b o pl h1 h2, fun b pl h1 => ⟨(hr.dom b pl h1).1, Nat.lt_of_lt_of_le (hr.dom b pl h1).2 g4.size⟩, hr.keys, hr.nxs, hr.inj, hr.lo⟩
  · exact ⟨Sub.refl φ, fun b pl e e' => (by rw [e] at e'; cases e'), Nat.le_refl _, g4.size, fun B hB _ => hfr B hB, fun _ _ _ => rfl, g4.tape, g4.os, g4.output, fun _ _ => trivial, rfl, fun _ _ => rfl, fun b o pl _ _ _ _ hB => hfr _ hB⟩

/-! ## the law's end -/
theorem grown_ro {φ φ' : Emb} {h h' : Heap} {w w' : World} (hx : Ext φ φ' h h' w w') (hro : ∀ b pl, φ b = some pl → b < h.lo ∧ ∃ o, h.bl.get b = some o ∧ o.live) : GrownOld w w' := by
  have hfr : ∀ B, B < w.heap.size → w'.heap[B]? = w.heap[B]? := fun B hB => by
    by_cases he : ∃ b pl, φ b = some pl ∧ pl.B = B
    · obtain ⟨b, pl, h1, rfl⟩ := he
      obtain ⟨h2, o, h3, h4⟩ := hro b pl h1
      exact hx.frW b o pl h2 h3 h4 h1 hB
    · exact hx.frC B hB fun b pl h1 h2 => he ⟨b, pl, h1, h2⟩
  refine ⟨⟨hx.os, hx.output, fun i hi => ?_⟩, fun a ha => ?_, hx.size⟩
  · rw [hfr i hi]
    cases w.heap[i]? with
    | none => rfl
    | some O => cases O <;> first | exact ⟨rfl, rfl, rfl, fun _ _ => rfl⟩ | exact .inr ⟨rfl, rfl⟩ | rfl
  · simp only [World.frozen?, hfr a.block ha]

def IsTrue (v : Value) (_h : Heap) : Prop := v = .bool true
theorem lawEnd {f : FuncId} {args args' : List Value} {φ : Emb} {h : Heap} {w : World} (hc : CallW P f args h IsTrue) (ha : F2 (VR φ) args args') (hr : HR P φ h w) (hro : ∀ b pl, φ b = some pl → b < h.lo ∧ ∃ o, h.bl.get b = some o ∧ o.live) :
    Calls P f args'.toArray w fun e w' => e = .returned (.bool true) ∧ GrownOld w w' := by
  refine Calls.mono (hc φ w args' ha hr).2 ?_
  rintro e w' ⟨φ', v, v', h', rfl, g1, g2, g3, g4⟩
  have g1 : v = .bool true := g1
  subst g1
  cases g2
  exact ⟨rfl, grown_ro g4 hro⟩

/-! ## what a block has -/
def Has (ob : Option AObj) (o : Nat) (ws : List Value) : Prop :=
  ∃ n c e, (ob = some (.ro n c e) ∨ ∃ op, ob = some (.cells n c e op)) ∧ o + ws.length ≤ n ∧ ∀ j v, ws[j]? = some v → c.get (o + j) = some v

theorem Has.cells {vs : List Value} {e : TypeId} {op : Bool} {o k : Nat} (h : o + k ≤ vs.length) : Has (some (cellsO vs e op)) o ((vs.drop o).take k) := by
  refine ⟨vs.length, lay vs .nil 0, e, .inr ⟨op, rfl⟩, by simp; omega, fun j v hj => ?_⟩
  rw [get_laid']
  rw [List.getElem?_take] at hj
  split at hj
  · simpa [List.getElem?_drop] using hj
  · cases hj
theorem Has.all {vs : List Value} {e : TypeId} {op : Bool} : Has (some (cellsO vs e op)) 0 vs := by
  have := Has.cells (vs := vs) (e := e) (op := op) (o := 0) (k := vs.length) (by omega)
  simpa using this
theorem Has.sub {ob : Option AObj} {o : Nat} {ws : List Value} (h : Has ob o ws) (i k : Nat) (hk : i + k ≤ ws.length) : Has ob (o + i) ((ws.drop i).take k) := by
  obtain ⟨n, c, e, h1, h2, h3⟩ := h
  refine ⟨n, c, e, h1, by simp; omega, fun j v hj => ?_⟩
  rw [List.getElem?_take] at hj
  split at hj
  · rw [List.getElem?_drop] at hj
    rw [Nat.add_assoc]; exact h3 _ _ hj
  · cases hj
theorem ldO_has {ob : Option AObj} {o : Nat} {ws : List Value} (h : Has ob o ws) (j : Nat) (κ : Value → β) : j < ws.length → ldO fl ob (o + j) κ = optK fl ws[j]? κ := by
  intro hj
  obtain ⟨n, c, e, h1, h2, h3⟩ := h
  have hle : Nat.ble (Nat.succ (o + j)) n = true := Nat.ble_eq_true_of_le (by omega)
  have hv := h3 j _ (List.getElem?_eq_getElem hj)
  rw [List.getElem?_eq_getElem hj]
  rcases h1 with rfl | ⟨op, rfl⟩ <;> simp only [ldO, hle, hv, optK]
theorem loadN_get (c : T Value) (ws : List Value) (off : Nat) : ∀ (n : Nat) (acc : List Value) (κ : List Value → β), n ≤ ws.length → (∀ j v, ws[j]? = some v → c.get (off + j) = some v) → loadN fl c off n acc κ = κ (ws.take n ++ acc) := by
  intro n
  induction n with
  | zero => intro acc κ _ _; simp; rfl
  | succ n ih =>
    intro acc κ h hc
    show Option.rec (motive := fun _ => β) fl (fun v => loadN fl c off n (v :: acc) κ) (c.get (Nat.add off n)) = _
    rw [show Nat.add off n = off + n from rfl, hc n _ (List.getElem?_eq_getElem (by omega))]
    show loadN fl c off n (ws[n] :: acc) κ = _
    rw [ih _ _ (by omega) hc, List.take_succ_eq_append_getElem (by omega)]
    simp only [List.append_assoc, List.cons_append, List.nil_append]
theorem ldA_has {ob : Option AObj} {o : Nat} {ws : List Value} (h : Has ob o ws) (s : Nat) (κ : List Value → β) (hs : s = ws.length) : ldA fl ob o s κ = κ ws := by
  obtain ⟨n, c, e, h1, h2, h3⟩ := h
  subst hs
  have hle : Nat.ble (Nat.add o ws.length) n = true := Nat.ble_eq_true_of_le h2
  rcases h1 with rfl | ⟨op, rfl⟩ <;> simp only [ldA, hle] <;> rw [loadN_get c ws o _ _ _ (Nat.le_refl _) h3] <;> simp
theorem firstB_zero (h : Heap) (size n : Nat) (x : Value) (κ : List Value → β) (h0 : n * size = 0) : firstB fl h size n x κ = κ [] := by
  unfold firstB
  rw [show Nat.mul n size = 0 from h0]
theorem firstB_has {h : Heap} {b o : Nat} {ws : List Value} (hh : Has (h.bl.get b) o ws) (size n l c : Nat) (κ : List Value → β) (hn : n * size = ws.length) : firstB fl h size n (.slice (some ⟨b, o, none⟩) l c) κ = κ ws := by
  unfold firstB
  rw [show Nat.mul n size = ws.length from hn]
  cases hw : ws with
  | nil => rfl
  | cons w0 ws0 =>
    obtain ⟨nn, cc, e, h1, h2, h3⟩ := hh
    rw [hw] at h2 h3
    have hle : Nat.ble (Nat.add o (Nat.succ ws0.length)) nn = true := Nat.ble_eq_true_of_le (by simpa using h2)
    have fin : loadN fl cc o (Nat.succ ws0.length) [] κ = κ (w0 :: ws0) := by
      rw [loadN_get cc (w0 :: ws0) o _ _ _ (by simp) h3]
      congr 1
      simp
    rcases h1 with h1 | ⟨op, h1⟩ <;> simp only [List.length_cons, h1, hle] <;> exact fin

/-! ## a slice that reads as a list -/
section
variable {α : Type} (enc : α → List Value) (s : Nat)
/-- the elements lie one behind the other, s cells each -/
def Sl (h : Heap) (v : Value) (L : List α) : Prop :=
  ∃ x cap, v = .slice x L.length cap ∧ (L ≠ [] → ∃ b o, x = some ⟨b, o, none⟩ ∧ b < h.nx ∧ Has (h.bl.get b) o (L.flatMap enc))
variable {enc s}
theorem Sl.le {h h' : Heap} {v : Value} {L : List α} (hs : Sl enc h v L) (hl : Le h h') : Sl enc h' v L := by
  obtain ⟨x, cap, h1, h2⟩ := hs
  refine ⟨x, cap, h1, fun hn => ?_⟩
  obtain ⟨b, o, e1, e2, e3⟩ := h2 hn
  exact ⟨b, o, e1, Nat.lt_of_lt_of_le e2 hl.nx, by rw [hl.get b e2]; exact e3⟩
theorem Sl.nil (h : Heap) (x : Option Addr) (cap : Nat) : Sl enc h (.slice x 0 cap) ([] : List α) := ⟨x, cap, rfl, fun hn => absurd rfl hn⟩
theorem flat_length (he : ∀ a : α, (enc a).length = s) (L : List α) : (L.flatMap enc).length = L.length * s := by
  induction L with
  | nil => simp
  | cons a L ih => simp [he, ih, Nat.succ_mul, Nat.add_comm]
theorem flat_at (he : ∀ a : α, (enc a).length = s) : ∀ (L : List α) (i : Nat) (hi : i < L.length), ((L.flatMap enc).drop (i * s)).take s = enc L[i] := by
  intro L
  induction L with
  | nil => intro i hi; simp at hi
  | cons a L ih =>
    intro i hi
    cases i with
    | zero => simp [List.take_append, he]
    | succ i =>
      have := ih i (by simpa using hi)
      simp only [List.flatMap_cons, List.getElem_cons_succ]
      rw [← this, List.drop_append, show (enc a).drop ((i + 1) * s) = [] from List.drop_eq_nil_of_le (by rw [he, Nat.succ_mul]; omega), he, show (i + 1) * s - s = i * s by rw [Nat.succ_mul]; omega]
      rfl
/-- an element's cells -/
theorem Sl.elem {h : Heap} {v : Value} {L : List α} (hs : Sl enc h v L) (he : ∀ a : α, (enc a).length = s) (i : Nat) (hi : i < L.length) :
    ∃ b o cap, v = .slice (some ⟨b, o, none⟩) L.length cap ∧ b < h.nx ∧ Has (h.bl.get b) (o + i * s) (enc L[i]) := by
  obtain ⟨x, cap, h1, h2⟩ := hs
  obtain ⟨b, o, e1, e2, e3⟩ := h2 (by intro e; rw [e] at hi; simp at hi)
  subst e1
  refine ⟨b, o, cap, h1, e2, ?_⟩
  have hle : i * s + s ≤ (L.flatMap enc).length := by
    rw [flat_length he, ← Nat.succ_mul]; exact Nat.mul_le_mul_right _ hi
  have := e3.sub (i * s) s hle
  rwa [flat_at he L i hi] at this
theorem Sl.len {h : Heap} {v : Value} {L : List α} (hs : Sl enc h v L) (κ : Value → Heap → β) (h' : Heap) : lenSli fl v h' κ = κ (.int .i64 (L.length : Int)) h' := by
  obtain ⟨x, cap, rfl, _⟩ := hs; rfl
/-- an element's address -/
theorem Sl.at {h : Heap} {v : Value} {L : List α} (hs : Sl enc h v L) (he : ∀ a : α, (enc a).length = s) (i : Nat) (hi : i < L.length) :
    ∃ b o, b < h.nx ∧ Has (h.bl.get b) o (enc L[i]) ∧ ∀ (β : Type) (fl : β) (h' : Heap) (κ : Value → Heap → β), indexAddrS fl s v (.int .i64 (i : Int)) h' κ = κ (.pointer (some ⟨b, o, none⟩)) h' := by
  obtain ⟨b, o, cap, rfl, h1, h2⟩ := hs.elem he i hi
  exact ⟨b, o + i * s, h1, h2, fun β fl h' κ => indexAddr_eq s b o _ cap i h' κ hi⟩
/-- an element: its address; how it is read, whole and cell by cell -/
theorem Sl.ld {h : Heap} {v : Value} {L : List α} (hs : Sl enc h v L) (he : ∀ a : α, (enc a).length = s) (i : Nat) {p : α} (hp : L[i]? = some p) :
    ∃ b o, b < h.nx ∧ (∀ (β : Type) (fl : β) (h' : Heap) (κ : Value → Heap → β), indexAddrS fl s v (.int .i64 (i : Int)) h' κ = κ (.pointer (some ⟨b, o, none⟩)) h') ∧
      (∀ (β : Type) (fl : β) (κ : List Value → β), ldA fl (h.bl.get b) o s κ = κ (enc p)) ∧ Has (h.bl.get b) o (enc p) := by
  obtain ⟨hi, rfl⟩ := List.getElem?_eq_some_iff.1 hp
  obtain ⟨b, o, h1, h2, h3⟩ := hs.at he i hi
  exact ⟨b, o, h1, h3, fun β fl κ => ldA_has h2 s κ (he _).symm, h2⟩
theorem Sl.first {h : Heap} {v : Value} {L : List α} (hs : Sl enc h v L) (he : ∀ a : α, (enc a).length = s) (κ : List Value → β) : firstB fl h s L.length v κ = κ (L.flatMap enc) := by
  by_cases hn : L = []
  · subst hn; rw [firstB_zero _ _ _ _ _ (by simp)]; rfl
  · obtain ⟨x, cap, rfl, h2⟩ := hs
    obtain ⟨b, o, rfl, e2, e3⟩ := h2 hn
    exact firstB_has e3 _ _ _ _ _ (flat_length he L).symm

/-! ## a slice of the call's own -/
/-- a new block's slice -/
theorem Sl.new {h : Heap} {b : Nat} {L : List α} {e : TypeId} {op : Bool} (hb : b < h.nx) (hg : h.bl.get b = some (cellsO (L.flatMap enc) e op)) (cap : Nat) : Sl enc h (.slice (some ⟨b, 0, none⟩) L.length cap) L :=
  ⟨_, cap, rfl, fun _ => ⟨b, 0, rfl, hb, by rw [hg]; exact Has.all⟩⟩

variable (enc)
/-- nobody else's: nothing yet, or a block that is full -/
def Own (a : Heap) (e : TypeId) (h : Heap) (v : Value) (L : List α) : Prop :=
  (L = [] ∧ (v = .slice none 0 0 ∨ ∃ b o, v = .slice (some ⟨b, o, none⟩) 0 0)) ∨ ∃ b, v = .slice (some ⟨b, 0, none⟩) L.length openCap ∧ a.nx ≤ b ∧ b < h.nx ∧ h.lo ≤ b ∧ h.bl.get b = some (cellsO (L.flatMap enc) e true)
variable {enc}
theorem Own.sl {a h : Heap} {e : TypeId} {v : Value} {L : List α} (ho : Own enc a e h v L) : Sl enc h v L := by
  rcases ho with ⟨rfl, rfl | ⟨b, o, rfl⟩⟩ | ⟨b, rfl, h1, h2, h3, h4⟩
  · exact Sl.nil _ _ _
  · exact Sl.nil _ _ _
  · exact Sl.new h2 h4 _
theorem Own.le {a h h' : Heap} {e : TypeId} {v : Value} {L : List α} (ho : Own enc a e h v L) (hl : Le h h') : Own enc a e h' v L := by
  rcases ho with ho | ⟨b, h0, h1, h2, h3, h4⟩
  · exact .inl ho
  · exact .inr ⟨b, h0, h1, Nat.lt_of_lt_of_le h2 hl.nx, by rw [hl.lo]; exact h3, by rw [hl.get b h2]; exact h4⟩

theorem append_nil {h : Heap} {e : TypeId} {z : List Value} {v x : Value} (hx : Sl enc h x ([] : List α)) (hv : ∃ b n c, v = .slice b n c) (κ : Value → Heap → β) : appendB fl e s z false v x h κ = κ v h := by
  obtain ⟨b, n, c, rfl⟩ := hv
  obtain ⟨y, cap, rfl, _⟩ := hx
  simp only [appendB, comeB, List.length_nil]
  rw [firstB_zero _ _ _ _ _ (by simp)]

set_option maxRecDepth 20000 in
theorem append_own {a h : Heap} {e : TypeId} {z : List Value} {v x : Value} {L M : List α} (he : ∀ a : α, (enc a).length = s) (hone : ∀ a : α, (enc a).all oneC = true) (hs0 : 0 < s) (hs1 : s ≤ 100) (ho : Own enc a e h v L) (hx : Sl enc h x M)
    (hle : Le a h) (hb : L.length + M.length ≤ 1000000) (hal : h.lo ≤ h.nx) (κ : Value → Heap → Prop)
    (hk : ∀ v' h', Own enc a e h' v' (L ++ M) → Le a h' → h'.nx ≤ h.nx + 1 → h.nx ≤ h'.nx → κ v' h') : appendB False e s z false v x h κ := by
  by_cases hM : M = []
  · subst hM
    rw [append_nil hx (by rcases ho with ⟨rfl, rfl | ⟨b, o, rfl⟩⟩ | ⟨b, rfl, _⟩ <;> exact ⟨_, _, _, rfl⟩)]
    exact hk v h (by simpa using ho) hle (Nat.le_succ _) (Nat.le_refl _)
  · obtain ⟨m, hm⟩ : ∃ m, M.length = m + 1 := ⟨M.length - 1, by have := List.length_pos_iff.2 hM; omega⟩
    have hfl := flat_length (enc := enc) he
    have hfirst := hx.first (β := Prop) (fl := False) he
    obtain ⟨y, cap, rfl, h2⟩ := hx
    have hml : ∀ K : List α, K.length ≤ 1000000 → (K.flatMap enc).length ≤ 1000000000000 := fun K hK => by
      rw [hfl]
      have := Nat.mul_le_mul hK hs1
      omega
    have fresh : ∀ (hh : Heap) (ws : List Value), ws = (L ++ M).flatMap enc → Le a hh → hh.nx = h.nx → hh.lo = h.lo → newCells False ws e true hh fun b h' => κ (.slice (some ⟨b, 0, none⟩) (L.length + M.length) openCap) h' := by
      intro hh ws hw hah hnx hlo
      subst hw
      unfold newCells
      rw [cellsK_eq _ _ _ _ (hml _ (by simp; omega)), newBlock_eq]
      refine hk _ _ (.inr ⟨hh.nx, by simp, hah.nx, Nat.lt_succ_self _, by show hh.lo ≤ _; omega, T.get_upd_same _ _ _⟩) (hah.new _) (by show hh.nx + 1 ≤ _; omega) (by show h.nx ≤ hh.nx + 1; omega)
    rcases ho with ⟨rfl, hv⟩ | ⟨b, rfl, h3, h4, h5, h6⟩
    · have hF := fresh h (M.flatMap enc) (by simp) hle rfl rfl
      simp only [List.length_nil, Nat.zero_add] at hF
      rcases hv with rfl | ⟨b, o, rfl⟩
      · unfold appendB comeB
        simp only
        rw [hfirst]
        simp only [hm, fnK_eq]
        rw [show Nat.ble (Nat.add 0 (m + 1)) 1000000000 = true from Nat.ble_eq_true_of_le (by show 0 + (m + 1) ≤ _; omega)]
        rw [hm] at hF
        have e1 : Nat.add 0 (m + 1) = m + 1 := by show 0 + (m + 1) = _; omega
        rw [e1]
        exact hF
      · unfold appendB comeB
        simp only
        rw [hfirst]
        simp only [hm, fnK_eq]
        have e1 : Nat.add 0 (m + 1) = m + 1 := by show 0 + (m + 1) = _; omega
        rw [e1, show Nat.ble (m + 1) 1000000000 = true from Nat.ble_eq_true_of_le (by omega)]
        rw [hm] at hF
        show firstB False h s 0 _ _
        rw [firstB_zero _ _ _ _ _ (by simp)]
        exact hF
    · unfold appendB comeB
      simp only
      rw [hfirst]
      simp only [hm, fnK_eq]
      have e1 : Nat.add L.length (m + 1) = L.length + (m + 1) := rfl
      rw [e1, show Nat.ble (L.length + (m + 1)) 1000000000 = true from Nat.ble_eq_true_of_le (by omega)]
      have e2 : Nat.beq openCap anyCap = false := by decide
      have e3 : Nat.beq openCap openCap = true := Nat.beq_refl _
      simp only [e2, e3, h6]
      have e4 : Nat.ble (Nat.add 0 (Nat.mul (L.length + (m + 1)) s)) (L.flatMap enc).length = false := by
        rw [hfl]
        cases hbb : Nat.ble (Nat.add 0 (Nat.mul (L.length + (m + 1)) s)) (L.length * s) with
        | false => rfl
        | true =>
          have h7 : 0 + (L.length + (m + 1)) * s ≤ L.length * s := Nat.le_of_ble_eq_true hbb
          rw [Nat.add_mul, Nat.succ_mul] at h7
          omega
      have e5 : (M.flatMap enc).all oneC = true := by
        rw [List.all_flatMap]; simp only [List.all_eq_true]; intro x _; exact List.all_eq_true.1 (hone x)
      simp only [cellsO, Nat.beq_refl, e4, e5, Bool.and_self]
      have hh : Has (h.bl.get b) 0 (L.flatMap enc) := by rw [h6]; exact Has.all
      rw [firstB_has hh s L.length _ _ _ (hfl L).symm, setBlock_eq _ _ _ _ h5]
      have hF := fresh ⟨h.nx, h.bl.upd b (.dead (L.flatMap enc).length e), h.lo⟩ (L.flatMap enc ++ M.flatMap enc) (by simp) (hle.set h3 _) rfl rfl
      rw [hm] at hF
      exact hF
end
end Go.Vai

namespace Go.Vai
open Go
/-! ## small ones -/
theorem repeatL_1 (zs : List Value) : repeatL zs 1 = zs := by simp [repeatL]
theorem wantV_undef (w : Bool) : wantV undef w = false := by cases w <;> rfl
theorem slot_0 (a : Value) (l : List Value) : slot (a :: l) 0 = a := id rfl
theorem slot_s (a : Value) (l : List Value) (n : Nat) : slot (a :: l) (n + 1) = slot l n := id rfl
theorem cells_agg (l : List Value) : (Value.cells (.agg ⟨l⟩)).toList = l := id rfl
theorem cells_int (k : IntKind) (n : Int) : (Value.cells (.int k n)).toList = [.int k n] := id rfl
theorem cells_bool (b : Bool) : (Value.cells (.bool b)).toList = [.bool b] := id rfl
theorem cells_ptr (a : Option Addr) : (Value.cells (.pointer a)).toList = [.pointer a] := id rfl
theorem cells_slice (a : Option Addr) (n c : Nat) : (Value.cells (.slice a n c)).toList = [.slice a n c] := id rfl
theorem one_int (k : IntKind) (n : Int) : oneC (.int k n) = true := id rfl
theorem one_bool (b : Bool) : oneC (.bool b) = true := id rfl
theorem one_str (s : ByteArray) : oneC (.string s) = true := id rfl
theorem one_ptr (a : Option Addr) : oneC (.pointer a) = true := id rfl
theorem one_sli (a : Option Addr) (n c : Nat) : oneC (.slice a n c) = true := id rfl
theorem one_map (a : Option Nat) : oneC (.map a) = true := id rfl
theorem one_fun (f : Fn) (a b : Array Value) : oneC (.func f a b) = true := id rfl
theorem one_ifc (t : TypeId) (v : Value) : oneC (.iface t v) = true := id rfl
theorem over_all (vs ws : List Value) (h : ws.length = vs.length) : over vs 0 ws = ws := by simp [over, h]
variable {β : Type} {fl : β}
theorem overL_eq : ∀ (new old : List Value) (κ : List Value → β), new.length ≤ old.length → overL fl new old κ = κ (over old 0 new) := by
  intro new
  induction new with
  | nil => intro old κ _; rw [over_nil]; cases old <;> rfl
  | cons v new ih =>
    intro old κ h
    cases old with
    | nil => simp at h
    | cons o old =>
      simp only [overL]
      rw [ih old _ (by simpa using h)]
      simp [over]
theorem putL_eq (new : List Value) : ∀ (o : Nat) (old : List Value) (κ : List Value → β), o + new.length ≤ old.length → putL fl new o old κ = κ (over old o new) := by
  intro o
  induction o with
  | zero =>
    intro old κ h
    have : putL fl new 0 old κ = overL fl new old κ := by cases old <;> rfl
    rw [this, overL_eq _ _ _ (by simpa using h)]
  | succ o ih =>
    intro old κ h
    cases old with
    | nil => simp at h
    | cons v old =>
      simp only [putL]
      rw [ih old _ (by simp at h; omega)]
      simp [over, Nat.add_right_comm]
theorem fill_nil (cs : List Value) (κ : List Value → β) : fillB fl [] [] cs κ = κ cs := id rfl
theorem fill_cons (off size : Nat) (ps : List (Nat × Nat)) (v : Value) (vs cs : List Value) (κ : List Value → β) (h1 : v.cells.toList.length = size) (h2 : off + size ≤ cs.length) :
    fillB fl ((off, size) :: ps) (v :: vs) cs κ = fillB fl ps vs (over cs off v.cells.toList) κ := by
  subst h1
  show (match Nat.beq v.cells.toList.length v.cells.toList.length with | false => fl | true => putL fl v.cells.toList off cs fun cs => fillB fl ps vs cs κ) = _
  rw [Nat.beq_refl]
  simp only
  rw [putL_eq _ _ _ _ h2]
theorem fill_1 (size : Nat) (v : Value) (cs : List Value) (κ : List Value → β) (h1 : v.cells.toList.length = size) (h2 : cs.length = size) : fillB fl [(0, size)] [v] cs κ = κ v.cells.toList := by
  rw [fill_cons _ _ _ _ _ _ _ h1 (by omega), fill_nil, over_all _ _ (by omega)]
end Go.Vai
