/-
  PROVED HERE: a part of the proof, by a calculus of weakest conditions over an abstract heap (U26, U27, U28, U29, U30, U31, U32).
-/
import Derived.Test.YtijmemedhkgplaaGreatDoorUD
import Derived.Test.YtijmemedhkgplaaGreatDoorRZ
set_option linter.unusedVariables false
set_option linter.unusedSimpArgs false
set_option maxRecDepth 100000
set_option maxHeartbeats 8000000
set_option maxHeartbeats 4000000
namespace Go.Proofs
open Go.Vai Go.Clashes
/-! ## the parts of TableApart: what is told of a name -/
def u8I (i : Int) : UInt8 := UInt8.ofNat (IntKind.u8.wrap i).toNat
def byR (p : R5) : List UInt8 := [u8I p.x, u8I p.m, u8I p.w, u8I p.s]
def txtQ (Q : List R5) : List UInt8 := Q.flatMap byR
def toldE (t r : Int) (e : HE) : List UInt8 := if e.t = t ∧ e.r = r then txtQ e.Q else []
def toldT (t r : Int) (K : List HE) : List UInt8 := K.flatMap (toldE t r)
theorem txtQ_len (Q : List R5) : (txtQ Q).length = 4 * Q.length := by
  unfold txtQ
  induction Q with
  | nil => rfl
  | cons p Q ih => rw [List.flatMap_cons, List.length_append, ih, List.length_cons]; show 4 + _ = _; omega
theorem toldT_len (t r : Int) (K : List HE) : (toldT t r K).length ≤ 4 * sumQ K := by
  unfold toldT sumQ
  induction K with
  | nil => exact Nat.zero_le _
  | cons e K ih =>
    rw [List.flatMap_cons, List.length_append, List.map_cons, List.sum_cons]
    have : (toldE t r e).length ≤ 4 * e.Q.length := by
      unfold toldE
      split
      · rw [txtQ_len]; exact Nat.le_refl _
      · exact Nat.zero_le _
    omega
theorem bytes_app (a b : List UInt8) : (⟨⟨a⟩⟩ : ByteArray) ++ (⟨⟨b⟩⟩ : ByteArray) = ⟨⟨a ++ b⟩⟩ := by
  apply ByteArray.ext
  simp
theorem conv_u8 {β : Type} {fl : β} (k : IntKind) (a : Int) (h : Heap) (κ : Value → Heap → β) : convI fl .u8 (.int k a) h κ = κ (.int .u8 (IntKind.u8.wrap a)) h := by simp only [convI, fiK_eq, wrapB_eq]
theorem u8_pos (a : Int) : 0 ≤ IntKind.u8.wrap a := Int.emod_nonneg _ (by decide)
section
variable {h : Heap} {tb bw bp bl : Nat} {c : Caps} {vb : Value} {heads N : Nat} {Ts : List TB} {W : List IE} {wc : Nat} {F : List Int} {B : List Bool}
theorem told12_w (s : TSt h tb bw bp bl c vb heads N Ts W wc F B) (hlo : h.lo ≤ h.nx) (t r : Int) (κ : Value → Heap → Prop) (hk : ∀ h' K, NamesOf Ts K → Le h h' → κ (.string ⟨⟨toldT t r K⟩⟩) h') :
    CallW Tryz.prog 13 [.pointer (some ⟨tb, 0, none⟩), nmV t r] h κ := by
  refine callW_of mixed ?_
  rw [rs_13]
  simp (disch := first | omega | (simp only [Wx]; done) | (simp only [Wy]; done) | (simp only [Wv]; omega) | with_unfolding_all rfl) only [Wz, ptrTo, sliceTo, nmV]
  obtain ⟨hA, e_hA⟩ : ∃ hA : Heap, hA = ⟨h.nx + 1, (h.bl.upd (h.nx) (cellsO [.int .i64 t, .int .i64 r] 24 false)), h.lo⟩ := ⟨_, rfl⟩
  have le_hA : Le h hA := by subst e_hA; exact ((Le.refl h).new _)
  have g1 : hA.bl.get (h.nx) = some (cellsO [.int .i64 t, .int .i64 r] 24 false) := by subst e_hA; exact T.get_upd_same _ _ _
  have n_hA : hA.nx = h.nx + 1 := by subst e_hA; rfl
  have l_hA : hA.lo = h.lo := by subst e_hA; rfl
  rw [← e_hA]
  clear e_hA
  refine tSnap_w (s.le le_hA) (by omega) _ ?_
  intro v0 h0 K t0 le0
  have g0 := (le0.get _ (by omega)).trans g1
  have n0 := le0.nx
  have l0 := le0.lo
  have hKl := s.headsLen t0.of
  have hQl := s.queueLen t0.of
  have hsum := s.sum t0.of
  have hsm := s.is.pool.small
  have htk : ∀ i, sumQ (K.take i) ≤ sumQ K := by
    intro i
    have e : sumQ K = sumQ (K.take i) + sumQ (K.drop i) := by
      conv => lhs; rw [← List.take_append_drop i K]
      unfold sumQ; rw [List.map_append, List.sum_append]
    omega
  obtain ⟨x4, c4, ev4, _⟩ := (show Sl encH h0 v0 K from t0.sl)
  have hlen4 : ∀ (β : Type) (fl : β) (h' : Heap) (κ : Value → Heap → β), lenSli fl v0 h' κ = κ (.int .i64 (K.length : Int)) h' := fun β fl h' κ => by rw [ev4]; exact lenSli_eq _ _ _ _ _
  refine ⟨fun m l h1 => ∃ i : Nat, slot l 52 = .int .i64 (i : Int) ∧ slot l 46 = .string ⟨⟨toldT t r (K.take i)⟩⟩ ∧ m = K.length - i ∧ i ≤ K.length ∧ Le h0 h1, ⟨_, 0, rfl, rfl, rfl, by omega, Le.refl h0⟩, ?_⟩
  rintro m l4 h1 ⟨i, s52, s46, rfl, hi, le1⟩
  have n1 := le1.nx
  have l1 := le1.lo
  by_cases hil : i < K.length
  case neg =>
    have hie : i = K.length := by omega
    subst hie
    rw [List.take_length] at s46
    simp (disch := first | omega | (simp only [Wx]; done) | (simp only [Wy]; done) | (simp only [Wv]; omega) | with_unfolding_all rfl) only [Wz, ptrTo, sliceTo, hlen4, s52, lt_f (show (K.length : Int) ≤ (K.length : Int) by omega), s46]
    exact hk h1 K t0.of (le_hA.trans (le0.trans le1))
  obtain ⟨e, he⟩ : ∃ e, K[i]? = some e := ⟨_, List.getElem?_eq_getElem hil⟩
  have heK := List.mem_of_getElem? he
  have qv := (t0.each e heK).2
  obtain ⟨b6, o6, hb6, hx6, hr6⟩ := ldHs t0.sl i he (slV_sl qv.1)
  have hq := hQl e heK
  have hti := htk i
  have htl := toldT_len t r (K.take i)
  have htake : toldT t r (K.take (i + 1)) = toldT t r (K.take i) ++ toldE t r e := flat_take (toldE t r) he
  simp (disch := first | omega | (simp only [Wx]; done) | (simp only [Wy]; done) | (simp only [Wv]; omega) | with_unfolding_all rfl) only [Wz, ptrTo, sliceTo, hlen4, s52, lt_t (show (i : Int) < (K.length : Int) by omega)]
  refine ⟨fun m l h2 => ∃ j : Nat, slot l 45 = .int .i64 (j : Int) ∧ slot l 42 = .string ⟨⟨toldT t r (K.take i) ++ txtQ (e.Q.take j)⟩⟩ ∧ m = e.Q.length - j ∧ j ≤ e.Q.length ∧ (¬ (e.t = t ∧ e.r = r) → j = 0) ∧ Le h0 h2, ⟨_, 0, rfl, ?_, rfl, by omega, fun _ => rfl, le1⟩, ?_⟩
  · rw [List.take_zero]
    show slot l4 46 = _
    rw [s46]
    have : txtQ [] = [] := rfl
    rw [this, List.append_nil]
  rintro m2 l8 h2 ⟨j, s45, s42, rfl, hj, hj0, le2⟩
  have n2 := le2.nx
  have l2 := le2.lo
  have R2 := hr6 h2 le2
  have gn := (le2.get _ (by omega)).trans g0
  have q2 := qv.1.le le2
  by_cases hn : e.t = t ∧ e.r = r
  · by_cases hjl : j < e.Q.length
    · obtain ⟨p, hp⟩ : ∃ p, e.Q[j]? = some p := ⟨_, List.getElem?_eq_getElem hjl⟩
      obtain ⟨b11, o11, hb11, hx11, hp11⟩ := ld5 q2 j hp
      have hlt : (txtQ (e.Q.take j)).length ≤ 512 := by
        rw [txtQ_len, List.length_take]; omega
      have hby : txtQ (e.Q.take (j + 1)) = txtQ (e.Q.take j) ++ byR p := flat_take byR hp
      simp (maxSteps := 3000000) (disch := first | omega | (simp only [Wx]; done) | (simp only [Wy]; done) | (simp only [Wv]; omega) | with_unfolding_all rfl) only [Wz, ptrTo, sliceTo, rs_13_1, s52, hx6, R2, gn, bin_eqN, dec_t hn, s45, q2.len, lt_t (show (j : Int) < (e.Q.length : Int) by omega), rs_13_0, hx11, hp11, enc5, conv_u8]
      have hf : ∀ (v1 v2 v3 v4 : Int) (κ : List Value → Prop), fillB False [(0, 1), (1, 1), (2, 1), (3, 1)] [Value.int .u8 v1, Value.int .u8 v2, Value.int .u8 v3, Value.int .u8 v4] (repeatL [Value.int .u8 0] 4) κ = κ [Value.int .u8 v1, Value.int .u8 v2, Value.int .u8 v3, Value.int .u8 v4] := fun _ _ _ _ _ => rfl
      rw [hf, cellsK_eq _ _ _ _ (by show 4 ≤ _; omega)]
      obtain ⟨h3, e3⟩ : ∃ h3 : Heap, h3 = ⟨h2.nx + 1 + 1, (h2.bl.upd h2.nx (cellsO [.int .i64 p.id, .int .i64 p.x, .int .i64 p.m, .int .i64 p.w, .int .i64 p.s] 54 false)).upd (h2.nx + 1) (cellsO [.int .u8 (IntKind.u8.wrap p.x), .int .u8 (IntKind.u8.wrap p.m), .int .u8 (IntKind.u8.wrap p.w), .int .u8 (IntKind.u8.wrap p.s)] 5 false), h2.lo⟩ := ⟨_, rfl⟩
      have le3 : Le h2 h3 := by rw [e3]; exact ((Le.refl h2).new _).new _
      have g3 : h3.bl.get (h2.nx + 1) = some (cellsO [.int .u8 (IntKind.u8.wrap p.x), .int .u8 (IntKind.u8.wrap p.m), .int .u8 (IntKind.u8.wrap p.w), .int .u8 (IntKind.u8.wrap p.s)] 5 false) := by rw [e3]; exact T.get_upd_same _ _ _
      rw [← e3]
      clear e3
      have hh : Has (h3.bl.get (h2.nx + 1)) 0 ([IntKind.u8.wrap p.x, IntKind.u8.wrap p.m, IntKind.u8.wrap p.w, IntKind.u8.wrap p.s].map (Value.int .u8)) := by rw [g3]; exact Has.all
      rw [bytesStr_eq (n := 4) (ns := [IntKind.u8.wrap p.x, IntKind.u8.wrap p.m, IntKind.u8.wrap p.w, IntKind.u8.wrap p.s]) rfl (by intro x hx; simp only [List.mem_cons, List.not_mem_nil, or_false] at hx; rcases hx with rfl | rfl | rfl | rfl <;> exact u8_pos _) hh, s42, bin_str _ _ _ _ _ _ _ _ (by show (toldT t r (K.take i) ++ txtQ (e.Q.take j)).length + 4 ≤ _; rw [List.length_append]; omega), bytes_app]
      refine ⟨_, by omega, j + 1, rfl, ?_, rfl, by omega, fun h => absurd hn h, le2.trans le3⟩
      rw [hby, ← List.append_assoc]
      rfl
    · have hje : j = e.Q.length := by omega
      simp (maxSteps := 3000000) (disch := first | omega | (simp only [Wx]; done) | (simp only [Wy]; done) | (simp only [Wv]; omega) | with_unfolding_all rfl) only [Wz, ptrTo, sliceTo, rs_13_1, s52, hx6, R2, gn, bin_eqN, dec_t hn, s45, q2.len, lt_f (show (e.Q.length : Int) ≤ (j : Int) by omega)]
      refine ⟨_, by omega, i + 1, rfl, ?_, rfl, by omega, le2⟩
      show slot l8 42 = _
      rw [s42, htake, hje, List.take_length]
      unfold toldE
      rw [if_pos hn]
  · simp (maxSteps := 3000000) (disch := first | omega | (simp only [Wx]; done) | (simp only [Wy]; done) | (simp only [Wv]; omega) | with_unfolding_all rfl) only [Wz, ptrTo, sliceTo, rs_13_1, s52, hx6, R2, gn, bin_eqN, dec_f hn]
    refine ⟨_, by omega, i + 1, rfl, ?_, rfl, by omega, le2⟩
    show slot l8 42 = _
    rw [s42, htake, hj0 hn, List.take_zero]
    unfold toldE
    rw [if_neg hn]
    rfl
end
end Go.Proofs

namespace Go.Proofs
open Go.Vai Go.Clashes
/-! ## two buckets alike but for the numbers of the requests -/
def stripR (p : R5) : Int × Int × Int × Int := (p.x, p.m, p.w, p.s)
def SQ (Q Q' : List R5) : Prop := Q.map stripR = Q'.map stripR
theorem SQ.len {Q Q' : List R5} (h : SQ Q Q') : Q.length = Q'.length := by have := congrArg List.length h; simpa using this
theorem strip_eq {p q : R5} (h : stripR p = stripR q) : p.x = q.x ∧ p.m = q.m ∧ p.w = q.w ∧ p.s = q.s := by
  unfold stripR at h
  simp only [Prod.mk.injEq] at h
  exact ⟨h.1, h.2.1, h.2.2.1, h.2.2.2⟩
theorem SQ.get {Q Q' : List R5} (h : SQ Q Q') (i : Nat) : (Q[i]?).map stripR = (Q'[i]?).map stripR := by
  rw [← List.getElem?_map, ← List.getElem?_map, h]
theorem SQ.getN {Q Q' : List R5} (h : SQ Q Q') {i : Nat} (hi : Q[i]? = none) : Q'[i]? = none := by
  have := h.get i; rw [hi] at this
  cases hq : Q'[i]? with
  | none => rfl
  | some q => rw [hq] at this; cases this
theorem SQ.getS {Q Q' : List R5} (h : SQ Q Q') {i : Nat} {p : R5} (hi : Q[i]? = some p) : ∃ q, Q'[i]? = some q ∧ stripR p = stripR q := by
  have := h.get i; rw [hi] at this
  cases hq : Q'[i]? with
  | none => rw [hq] at this; cases this
  | some q => rw [hq] at this; exact ⟨q, rfl, Option.some.inj this⟩
theorem SQ.symm {Q Q' : List R5} (h : SQ Q Q') : SQ Q' Q := Eq.symm h
theorem SQ.lessQ {Q Q' : List R5} (h : SQ Q Q') {r r' : R5} (hr : stripR r = stripR r') (o : Option Nat) : lessQ Q r o = lessQ Q' r' o := by
  cases o with
  | none => rfl
  | some b =>
    show (match Q[b]? with | some q => decide (r.s < q.s) | none => false) = (match Q'[b]? with | some q => decide (r'.s < q.s) | none => false)
    cases hq : Q[b]? with
    | none => rw [h.getN hq]
    | some q =>
      obtain ⟨q', h1, h2⟩ := h.getS hq
      rw [h1]
      simp only
      rw [(strip_eq hr).2.2.2, (strip_eq h2).2.2.2]
theorem upR_strip {r r' : R5} (hr : stripR r = stripR r') : upR r = upR r' := by
  obtain ⟨h1, h2, h3, h4⟩ := strip_eq hr
  unfold upR
  rw [h2, h4]
theorem SQ.best {Q Q' : List R5} (h : SQ Q Q') : ∀ i, best Q i = best Q' i := by
  intro i
  induction i with
  | zero => rfl
  | succ i ih =>
    unfold Go.Vai.best
    cases hq : Q[i]? with
    | none => rw [h.getN hq]; exact ih
    | some r =>
      obtain ⟨r', h1, h2⟩ := h.getS hq
      rw [h1]
      simp only
      rw [ih, upR_strip h2, h.lessQ h2]
theorem SQ.any {Q Q' : List R5} (h : SQ Q Q') (f : Int × Int × Int × Int → Bool) : Q.any (fun q => f (stripR q)) = Q'.any (fun q => f (stripR q)) := by
  have h1 : Q.any (fun q => f (stripR q)) = (Q.map stripR).any f := by rw [List.any_map]; rfl
  have h2 : Q'.any (fun q => f (stripR q)) = (Q'.map stripR).any f := by rw [List.any_map]; rfl
  rw [h1, h2, h]
theorem SQ.first {Q Q' : List R5} (h : SQ Q Q') : firstQ Q = firstQ Q' := by
  unfold firstQ
  rw [h.best, h.len]
  have h1 : Q.findIdx? (fun r => decide (r.m = 0)) = (Q.map stripR).findIdx? fun r => decide (r.2.1 = 0) := by rw [List.findIdx?_map]; rfl
  have h2 : Q'.findIdx? (fun r => decide (r.m = 0)) = (Q'.map stripR).findIdx? fun r => decide (r.2.1 = 0) := by rw [List.findIdx?_map]; rfl
  rw [h1, h2, h]
theorem fits_new {Q : List R5} {n x m : Int} (hn : ∀ q ∈ Q, q.id ≠ n) : fitsQ Q ⟨n, x, 0, m, 0⟩ = !Q.any fun q => decide (q.m ≠ 0) && !cmp q.m m := by
  unfold fitsQ
  congr 1
  have : ∀ L : List R5, (∀ q ∈ L, q.id ≠ n) → (L.any fun o => decide (o.id ≠ n) && decide (o.m ≠ 0) && !cmp o.m m) = L.any fun q => decide (q.m ≠ 0) && !cmp q.m m := by
    intro L
    induction L with
    | nil => intro _; rfl
    | cons q L ih =>
      intro hL
      rw [List.any_cons, List.any_cons, ih fun x hx => hL x (.tail _ hx), decide_eq_true (hL q (.head _)), Bool.true_and]
  exact this Q hn
theorem SQ.ask {Q Q' : List R5} (h : SQ Q Q') {w x m n n' : Int} (hn : ∀ q ∈ Q, q.id ≠ n) (hn' : ∀ q ∈ Q', q.id ≠ n') :
    SQ (Q ++ [(askR Q w n x m).1]) (Q' ++ [(askR Q' w n' x m).1]) ∧ (askR Q w n x m).2.1 = (askR Q' w n' x m).2.1 := by
  have e1 : fitsQ Q ⟨n, x, 0, m, 0⟩ = fitsQ Q' ⟨n', x, 0, m, 0⟩ := by
    rw [fits_new hn, fits_new hn']
    congr 1
    exact h.any fun s => decide (s.2.1 ≠ 0) && !cmp s.2.1 m
  unfold askR
  rw [← h.first, ← e1]
  unfold SQ at *
  split
  · refine ⟨?_, rfl⟩
    rw [List.map_append, List.map_append, h]; rfl
  · refine ⟨?_, rfl⟩
    rw [List.map_append, List.map_append, h]; rfl
/-- the same heads, but for the numbers -/
def HalfB (M M' : List HE) : Prop := ∀ e ∈ M, ∃ f ∈ M', f.t = e.t ∧ f.r = e.r ∧ f.w = e.w ∧ SQ e.Q f.Q
structure SimB (M M' : List HE) : Prop where
  to : HalfB M M'
  fro : HalfB M' M
theorem SimB.symm {M M' : List HE} (s : SimB M M') : SimB M' M := ⟨s.fro, s.to⟩
theorem SQ.txt {Q Q' : List R5} (h : SQ Q Q') : txtQ Q = txtQ Q' := by
  have : ∀ L : List R5, txtQ L = (L.map stripR).flatMap fun s => [u8I s.1, u8I s.2.1, u8I s.2.2.1, u8I s.2.2.2] := by
    intro L
    unfold txtQ
    rw [List.flatMap_map]
    rfl
  rw [this, this, h]
/-- one more request in both -/
theorem SimB.put {M M' N N' : List HE} (s : SimB M M') {t r : Int} {e e' : HE} (h1 : N.Perm (M.filter (fun x => !isN t r x) ++ [e])) (h2 : N'.Perm (M'.filter (fun x => !isN t r x) ++ [e'])) (ht : e.t = e'.t) (hr : e.r = e'.r) (hw : e.w = e'.w) (hq : SQ e.Q e'.Q) : SimB N N' := by
  have half : ∀ {M M' N N' : List HE} {e e' : HE}, HalfB M M' → N.Perm (M.filter (fun x => !isN t r x) ++ [e]) → N'.Perm (M'.filter (fun x => !isN t r x) ++ [e']) → e.t = e'.t → e.r = e'.r → e.w = e'.w → SQ e.Q e'.Q → HalfB N N' := by
    intro M M' N N' e e' s h1 h2 ht hr hw hq x hx
    rcases List.mem_append.1 (h1.mem_iff.1 hx) with hx | hx
    · obtain ⟨hxM, hxn⟩ := List.mem_filter.1 hx
      obtain ⟨f, hf, k1, k2, k3, k4⟩ := s x hxM
      refine ⟨f, h2.mem_iff.2 (List.mem_append.2 (.inl (List.mem_filter.2 ⟨hf, ?_⟩))), k1, k2, k3, k4⟩
      unfold isN at *
      rw [k1, k2]; exact hxn
    · rw [List.mem_singleton] at hx
      subst hx
      exact ⟨e', h2.mem_iff.2 (by simp), ht.symm, hr.symm, hw.symm, hq⟩
  exact ⟨half s.to h1 h2 ht hr hw hq, half s.fro h2 h1 ht.symm hr.symm hw.symm hq.symm⟩
end Go.Proofs

namespace Go.Proofs
open Go.Vai Go.Clashes
/-! ## two tables: a call of one leaves the other -/
section
variable {h h' : Heap} {tb bw bp bl : Nat} {c : Caps} {vb : Value} {heads N : Nat} {Ts : List TB} {W : List IE} {wc : Nat} {F : List Int} {B : List Bool}
variable {tb2 bw2 bp2 bl2 : Nat} {c2 : Caps} {vb2 : Value} {heads2 N2 : Nat} {Us : List TB} {W2 : List IE} {wc2 : Nat} {G : List Int} {B2 : List Bool}
structure Aside (h : Heap) (Ts Us : List TB) (bw bw2 bp bp2 bl bl2 : Nat) : Prop where
  mm : ∀ b ∈ Ts, ∀ u ∈ Us, u.bm ≠ b.bm
  wm : ∀ b ∈ Ts, bw2 ≠ b.bm
  mw : ∀ u ∈ Us, u.bm ≠ bw
  ww : bw2 ≠ bw
  pp : bp2 ≠ bp
  ll : bl2 ≠ bl
  fb : ∀ x, FB h bp x → FB h bp2 x → False
theorem Aside.symm (a : Aside h Ts Us bw bw2 bp bp2 bl bl2) : Aside h Us Ts bw2 bw bp2 bp bl2 bl :=
  ⟨fun b hb u hu e => a.mm u hu b hb e.symm, fun u hu e => a.mw u hu e.symm, fun b hb e => a.wm b hb e.symm, fun e => a.ww e.symm, fun e => a.pp e.symm, fun e => a.ll e.symm, fun x h1 h2 => a.fb x h2 h1⟩
theorem keepMapT (s : TableIs h tb bw bp bl c vb heads Ts W wc F B) (f : FrT Ts bw bp bl h h') {d : Nat} {es : List MapEntry} {cl : Nat} (hd : d < h.nx) (hg : h.bl.get d = some (.map es cl)) (h1 : ∀ b ∈ Ts, d ≠ b.bm) (h2 : d ≠ bw) : h'.bl.get d = h.bl.get d := by
  obtain ⟨fs, hgp, hpt⟩ := s.pool.fr.cell
  have gl := s.pool.cell
  exact f.get d hd h1 h2 (by rintro rfl; rw [hgp] at hg; exact cells_map hg.symm) (by rintro rfl; rw [gl] at hg; exact cells_map hg.symm) fun ws => by rw [hg]; exact cells_map
theorem cellNeT (s : TableIs h tb bw bp bl c vb heads Ts W wc F B) {d : Nat} {vs : List Value} {ty : TypeId} {op : Bool} (hg : h.bl.get d = some (cellsO vs ty op)) : (∀ b ∈ Ts, d ≠ b.bm) ∧ d ≠ bw := by
  constructor
  · rintro b hb rfl
    have gm := (s.bk b hb).cellm
    rw [hg] at gm
    exact cells_map gm.symm
  · rintro rfl
    have gw := s.cellw
    rw [hg] at gw
    exact cells_map gw.symm
theorem poolOther (s : TableIs h tb bw bp bl c vb heads Ts W wc F B) (f : FrT Ts bw bp bl h h') (p : PoolIs h bp2 bl2 G B2) (hpp : bp2 ≠ bp) (hll : bl2 ≠ bl) (hfb : ∀ x, FB h bp x → FB h bp2 x → False) :
    PoolIs h' bp2 bl2 G B2 ∧ h'.bl.get bp2 = h.bl.get bp2 := by
  obtain ⟨fs, hgp, hpt⟩ := s.pool.fr.cell
  have gl := s.pool.cell
  have hbp := s.pool.fr.lt
  obtain ⟨fs2, hg2, hp2⟩ := p.fr.cell
  have gl2 := p.cell
  have fn := f.nx
  have e1 : h'.bl.get bp2 = h.bl.get bp2 := f.get bp2 p.fr.lt (cellNeT s hg2).1 (cellNeT s hg2).2 hpp (by rintro rfl; rw [gl] at hg2; exact cells_ty (by decide) hg2) fun ws => by rw [hg2]; exact cells_op
  have e2 : h'.bl.get bl2 = h.bl.get bl2 := f.get bl2 p.lt (cellNeT s gl2).1 (cellNeT s gl2).2 (by rintro rfl; rw [hgp] at gl2; exact cells_ty (by decide) gl2) hll fun ws => by rw [gl2]; exact cells_op
  refine ⟨⟨⟨Nat.lt_of_lt_of_le p.fr.lt fn, by rw [f.lo]; exact p.fr.lo, fs2, e1.trans hg2, ?_⟩, Nat.lt_of_lt_of_le p.lt fn, by rw [f.lo]; exact p.lo, e2.trans gl2, p.ok, p.small⟩, e1⟩
  rcases hp2 with e | ⟨b, G', e, k1, k2, k3, k4⟩
  · exact .inl e
  · refine .inr ⟨b, G', e, Nat.lt_of_lt_of_le k1 fn, by rw [f.lo]; exact k2, ?_, k4⟩
    have hx : FB h bp2 b := ⟨_, _, _, e ▸ hg2⟩
    exact (f.g2 hbp b k1 (cellNeT s k3).1 (cellNeT s k3).2 (by rintro rfl; rw [hgp] at k3; exact cells_op k3) (by rintro rfl; rw [gl] at k3; exact cells_op k3) fun x => hfb b x hx).trans k3
theorem TSt.other (s : TableIs h tb bw bp bl c vb heads Ts W wc F B) (f : FrT Ts bw bp bl h h') (s2 : TSt h tb2 bw2 bp2 bl2 c2 vb2 heads2 N2 Us W2 wc2 G B2) (a : Aside h Ts Us bw bw2 bp bp2 bl bl2) :
    TSt h' tb2 bw2 bp2 bl2 c2 vb2 heads2 N2 Us W2 wc2 G B2 ∧ ∀ x, FB h' bp x → FB h' bp2 x → False := by
  have fn := f.nx
  have fl := f.lo
  obtain ⟨p', e1⟩ := poolOther s f s2.is.pool a.pp a.ll a.fb
  have keep : ∀ {d : Nat} {vs : List Value} {ty : TypeId} {op : Bool}, d < h.nx → h.bl.get d = some (cellsO vs ty op) → ty ≠ 132 → ty ≠ 4 → ty ≠ 3 → h'.bl.get d = h.bl.get d := fun hd hg h1 h2 h3 => f.keep s hd hg h1 h2 h3
  have bk : ∀ u ∈ Us, BucketIs h' u.bb u.bm bp2 bl2 heads2 u.M u.clock G B2 := by
    intro u hu
    have b2 := s2.is.bk u hu
    have sb := b2.ltb
    have sm := b2.ltm
    refine ⟨by omega, by omega, by rw [fl]; exact b2.lom, (keep sb b2.cellb (by decide) (by decide) (by decide)).trans b2.cellb, (keepMapT s f sm b2.cellm (fun b hb => a.mm b hb u hu) (a.mw u hu)).trans b2.cellm, b2.ok, fun e he => ?_, b2.good, p', b2.ne⟩
    have ha := b2.heads e he
    have al := ha.lt
    exact ⟨by omega, (keep al ha.get (by decide) (by decide) (by decide)).trans ha.get, ha.qv.frame fn fun c vs op hc hg => keep hc hg (by decide) (by decide) (by decide)⟩
  have k1 := Sl.keepTy s2.is.sl s2.is.ty fn fun d vs op hd hg => keep hd hg (by decide) (by decide) (by decide)
  have lt1 := s2.is.ltt
  have lt2 := s2.is.ltw
  refine ⟨⟨⟨by omega, (keep lt1 s2.is.cellt (by decide) (by decide) (by decide)).trans s2.is.cellt, k1.1, k1.2, by omega, by rw [fl]; exact s2.is.low, (keepMapT s f lt2 s2.is.cellw a.wm a.ww).trans s2.is.cellw, bk, s2.is.dist, s2.is.wne, p', s2.is.cS, s2.is.s1, s2.is.hd⟩, s2.ids, s2.wh, s2.nm, s2.wb, s2.len, s2.cR, s2.cH⟩, fun x h1 h2 => ?_⟩
  have h3 := (FB.congr e1).1 h2
  obtain ⟨fs2, hg2, hp2⟩ := s2.is.pool.fr.cell
  obtain ⟨n, cap, ls, hx⟩ := h3
  have hfs := cells_first (hg2.symm.trans hx)
  rcases hp2 with ⟨_, e2⟩ | ⟨b2, G', e2, h5, _⟩
  · rw [e2] at hfs; cases hfs
  · rw [e2] at hfs
    injection hfs with e; injection e with e; injection e with e
    subst e
    exact a.fb _ (f.mv s.pool.fr.lt _ h5 h1) ⟨_, _, _, hx⟩
end
end Go.Proofs

namespace Go.Proofs
open Go.Vai Go.Clashes
section
variable {h h' : Heap} {bb bm bp bl most : Nat} {M M' : List HE} {clock clock' : Nat} {F F' : List Int} {B : List Bool}
theorem asked_put (s : BucketIs h bb bm bp bl most M clock F B) {t r x m : Int} {n : Nat} {g : Bool} (am : askedM m = true) (a : Asked h h' bb bm bp bl most M M' clock' F F' B t r x m n g) :
    ∃ Q w e1, ((∃ e ∈ M, e.t = t ∧ e.r = r ∧ e.Q = Q ∧ e.w = w) ∨ ((∀ e ∈ M, ¬ (t = e.t ∧ r = e.r)) ∧ Q = [] ∧ w = 0)) ∧ e1.t = t ∧ e1.r = r ∧ e1.w = (askR Q w n x m).2.1 ∧ e1.Q = Q ++ [(askR Q w n x m).1] ∧ M'.Perm (M.filter (fun x => !isN t r x) ++ [e1]) ∧ (∀ q ∈ Q, q.id ≠ (n : Int)) := by
  obtain ⟨Q, w, hold, vq, vq', hg, hset⟩ := a.set
  have hst : stuckQ Q := by
    rcases hold with ⟨e, he, _, _, rfl, _⟩ | ⟨_, _, rfl, _⟩
    · exact (s.good e he).stuck
    · intro i r hf hr; simp at hr
  rw [scan_end (ask_stuck vq hst am)] at hset
  obtain ⟨e, h1, h2, h3, h4, hp⟩ := hset.put (by simp)
  refine ⟨Q, w, e, ?_, h1, h2, h3, h4, hp, fun q hq hqn => ?_⟩
  · rcases hold with ⟨e, he, k1, k2, k3, k4⟩ | ⟨k1, _, k2, k3⟩
    · exact .inl ⟨e, he, k1, k2, k3, k4⟩
    · exact .inr ⟨k1, k2, k3⟩
  · have hid : (askR Q w n x m).1.id = (n : Int) := askR_id _ _ _ _ _
    obtain ⟨i, hi⟩ := List.getElem?_of_mem hq
    have hl := (List.getElem?_eq_some_iff.1 hi).1
    have := pw_get.1 vq'.pair i Q.length q (askR Q w n x m).1 hl (by rw [List.getElem?_append_left hl]; exact hi) (by simp)
    exact this.id (hqn.trans hid.symm)
end
/-- both buckets take a request -/
theorem SimB.ask {h1 h1' h2 h2' : Heap} {bb bm bp bl most bb2 bm2 bp2 bl2 most2 : Nat} {M M' U U' : List HE} {cl cl' cl2 cl2' : Nat} {F F' G G' : List Int} {B B2 : List Bool} {t r x m : Int} {n n2 : Nat} {g g2 : Bool} (sim : SimB M U) (am : askedM m = true)
    (s : BucketIs h1 bb bm bp bl most M cl F B) (a : Asked h1 h1' bb bm bp bl most M M' cl' F F' B t r x m n g) (s2 : BucketIs h2 bb2 bm2 bp2 bl2 most2 U cl2 G B2) (a2 : Asked h2 h2' bb2 bm2 bp2 bl2 most2 U U' cl2' G G' B2 t r x m n2 g2) : SimB M' U' := by
  obtain ⟨Q, w, e1, k0, k1, k2, k3, k4, k5, k6⟩ := asked_put s am a
  obtain ⟨Q2, w2, e2, j0, j1, j2, j3, j4, j5, j6⟩ := asked_put s2 am a2
  have hq : SQ Q Q2 ∧ w = w2 := by
    rcases k0 with ⟨e, he, c1, c2, rfl, rfl⟩ | ⟨c1, rfl, rfl⟩
    · obtain ⟨f, hf, d1, d2, d3, d4⟩ := sim.to e he
      rcases j0 with ⟨f', hf', b1, b2, rfl, rfl⟩ | ⟨b1, _⟩
      · have : f' = f := s2.ok.uniq hf' hf (by omega) (by omega)
        subst this
        exact ⟨d4, d3.symm⟩
      · exact absurd ⟨by omega, by omega⟩ (b1 f hf)
    · rcases j0 with ⟨f, hf, b1, b2, rfl, rfl⟩ | ⟨_, rfl, rfl⟩
      · obtain ⟨e, he, d1, d2, _⟩ := sim.fro f hf
        exact absurd ⟨by omega, by omega⟩ (c1 e he)
      · exact ⟨rfl, rfl⟩
  obtain ⟨hq, rfl⟩ := hq
  obtain ⟨q1, q2⟩ := hq.ask (w := w) (x := x) (m := m) k6 j6
  exact sim.put k5 j5 (by rw [k1, j1]) (by rw [k2, j2]) (by rw [k3, j3]; exact q2) (by rw [k4, j4]; exact q1)
theorem toldT_nil {t r : Int} {K : List HE} (h : ∀ e ∈ K, ¬ (e.t = t ∧ e.r = r)) : toldT t r K = [] := by
  unfold toldT
  rw [List.flatMap_eq_nil_iff]
  intro e he
  unfold toldE
  rw [if_neg (h e he)]
theorem toldT_one {t r : Int} : ∀ {K : List HE}, (K.map nmOf).Pairwise ltN → ∀ {e : HE}, e ∈ K → e.t = t ∧ e.r = r → toldT t r K = txtQ e.Q := by
  intro K
  induction K with
  | nil => intro _ e he; cases he
  | cons k K ih =>
    intro hs e he hn
    rw [List.map_cons, List.pairwise_cons] at hs
    unfold toldT
    rw [List.flatMap_cons]
    rcases List.mem_cons.1 he with rfl | he'
    · have h0 : toldT t r K = [] := toldT_nil fun f hf hfn => by
        have := hs.1 (nmOf f) (List.mem_map.2 ⟨f, hf, rfl⟩)
        unfold ltN nmOf at this
        simp only at this
        omega
      unfold toldT at h0
      rw [h0, List.append_nil]
      unfold toldE
      rw [if_pos hn]
    · have h1 := hs.1 (nmOf e) (List.mem_map.2 ⟨e, he', rfl⟩)
      have hk : ¬ (k.t = t ∧ k.r = r) := by
        intro hk
        unfold ltN nmOf at h1
        simp only at h1
        omega
      have := ih hs.2 he' hn
      unfold toldT at this
      rw [this]
      unfold toldE
      rw [if_neg hk]; rfl
section
variable {h h2 : Heap} {tb bw bp bl : Nat} {c : Caps} {vb : Value} {heads N : Nat} {Ts : List TB} {W : List IE} {wc : Nat} {F : List Int} {B : List Bool}
variable {tb2 bw2 bp2 bl2 : Nat} {vb2 : Value} {heads2 N2 : Nat} {Us : List TB} {W2 : List IE} {wc2 : Nat} {G : List Int} {B2 : List Bool}
theorem told_half (s : TSt h tb bw bp bl c vb heads N Ts W wc F B) (s2 : TSt h2 tb2 bw2 bp2 bl2 c vb2 heads2 N2 Us W2 wc2 G B2) {t r : Int} (hl : Us.length = Ts.length) (sim : ∀ (k : Nat) b u, strN t r c.S = (k : Int) → Ts[k]? = some b → Us[k]? = some u → SimB b.M u.M) {K K' : List HE} (tt : NamesOf Ts K) (tu : NamesOf Us K') {e : HE} (he : e ∈ K) (hn : e.t = t ∧ e.r = r) : ∃ f ∈ K', (f.t = t ∧ f.r = r) ∧ SQ e.Q f.Q := by
  obtain ⟨b, hb, e0, he0, se⟩ := tt.each e he
  obtain ⟨k, hk⟩ := List.getElem?_of_mem hb
  have hst := s.nm k b hk e0 he0
  rw [← se.1, ← se.2.1, hn.1, hn.2] at hst
  have hkl := (List.getElem?_eq_some_iff.1 hk).1
  obtain ⟨u, hu⟩ : ∃ u, Us[k]? = some u := ⟨_, List.getElem?_eq_getElem (by omega)⟩
  obtain ⟨f0, hf0, d1, d2, d3, d4⟩ := (sim k b u hst hk hu).to e0 he0
  have hmem : nmOf f0 ∈ K'.map nmOf := tu.perm.mem_iff.2 (List.mem_flatMap.2 ⟨u, List.mem_of_getElem? hu, List.mem_map.2 ⟨f0, hf0, rfl⟩⟩)
  obtain ⟨f, hf, hfn⟩ := List.mem_map.1 hmem
  obtain ⟨u2, hu2, f2, hf2, sf⟩ := tu.each f hf
  have hx1 : f.t = f0.t := congrArg Prod.fst hfn
  have hx2 : f.r = f0.r := congrArg Prod.snd hfn
  have : f2 = f0 := s2.uniq hu2 (List.mem_of_getElem? hu) hf2 hf0 (by rw [← sf.1, hx1]) (by rw [← sf.2.1, hx2])
  subst this
  refine ⟨f, hf, ⟨by rw [hx1, d1, ← se.1, hn.1], by rw [hx2, d2, ← se.2.1, hn.2]⟩, ?_⟩
  rw [sf.2.2.2, se.2.2.2]; exact d4
theorem told_eq (s : TSt h tb bw bp bl c vb heads N Ts W wc F B) (s2 : TSt h2 tb2 bw2 bp2 bl2 c vb2 heads2 N2 Us W2 wc2 G B2) {t r : Int} (hl : Us.length = Ts.length) (sim : ∀ (k : Nat) b u, strN t r c.S = (k : Int) → Ts[k]? = some b → Us[k]? = some u → SimB b.M u.M) {K K' : List HE} (tt : NamesOf Ts K) (tu : NamesOf Us K') : toldT t r K = toldT t r K' := by
  by_cases hex : ∃ e ∈ K, e.t = t ∧ e.r = r
  · obtain ⟨e, he, hn⟩ := hex
    obtain ⟨f, hf, hfn, hq⟩ := told_half s s2 hl sim tt tu he hn
    rw [toldT_one tt.srt he hn, toldT_one tu.srt hf hfn, hq.txt]
  · by_cases hex2 : ∃ f ∈ K', f.t = t ∧ f.r = r
    · obtain ⟨f, hf, hn⟩ := hex2
      obtain ⟨e, he, hen, _⟩ := told_half s2 s hl.symm (fun k u b hk hu hb => (sim k b u hk hb hu).symm) tu tt hf hn
      exact absurd ⟨e, he, hen⟩ hex
    · rw [toldT_nil fun e he hn => hex ⟨e, he, hn⟩, toldT_nil fun f hf hn => hex2 ⟨f, hf, hn⟩]
/-- there is room -/
theorem TSt.room (s : TSt h tb bw bp bl c vb heads N Ts W wc F B) {i : Nat} (hi : (lentL B).length ≤ i) (hR : (i : Int) < c.R) (hH : (i : Int) < c.H) : F ≠ [] ∧ ∀ b ∈ Ts, b.M.length < heads := by
  have h1 := lent_len s.is.pool.ok
  have h2 := s.cR
  have h3 := s.cH
  refine ⟨by rintro rfl; simp at h1; omega, fun b hb => ?_⟩
  have h4 := s.ids.length_eq
  have h5 : ∀ L : List HE, (∀ e ∈ L, e.Q ≠ []) → L.length ≤ (idsM L).length := by
    intro L
    induction L with
    | nil => intro _; exact Nat.zero_le _
    | cons e L ih =>
      intro hL
      have := ih fun x hx => hL x (.tail _ hx)
      have hp := List.length_pos_iff.2 (hL e (.head _))
      show L.length + 1 ≤ (idsM (e :: L)).length
      unfold idsM at *
      rw [List.flatMap_cons, List.length_append, List.length_map]
      omega
  have h6 := h5 b.M fun e he => ((s.is.bk b hb).good e he).ne
  have h7 : ∀ L : List TB, b ∈ L → (idsM b.M).length ≤ (L.flatMap fun b => idsM b.M).length := by
    intro L
    induction L with
    | nil => intro hb; cases hb
    | cons x L ih =>
      intro hb
      rw [List.flatMap_cons, List.length_append]
      rcases List.mem_cons.1 hb with rfl | hb
      · omega
      · have := ih hb; omega
  have := h7 Ts hb
  omega
end
end Go.Proofs

namespace Go.Proofs
open Go.Vai Go.Clashes
theorem veq_nm (t r : Int) : veq 8 (.agg ⟨[.int .i64 t, .int .i64 r]⟩) (.agg ⟨[.int .i64 t, .int .i64 r]⟩) = true := by
  have : veq 8 (.agg ⟨[.int .i64 t, .int .i64 r]⟩) (.agg ⟨[.int .i64 t, .int .i64 r]⟩) = ((kindEq .i64 .i64 && ieqB t t) && ((kindEq .i64 .i64 && ieqB r r) && true)) := by kernel_rfl
  rw [this, ieqB_eq, ieqB_eq, decide_eq_true rfl, decide_eq_true rfl]; rfl
theorem levelAny_w (t r : Int) (h : Heap) (hlo : h.lo ≤ h.nx) (κ : Value → Heap → Prop) (hk : ∀ h' e, Le h h' → κ (.int .i64 e) h') : CallW Tryz.prog 43 [nmV t r] h κ := by
  refine callW_of mixed ?_
  rw [rs_43]
  simp (disch := first | omega | (simp only [Wx]; done) | (simp only [Wy]; done) | (simp only [Wv]; omega) | with_unfolding_all rfl) only [Wz, ptrTo, sliceTo, nmV]
  obtain ⟨hA, e_hA⟩ : ∃ hA : Heap, hA = ⟨h.nx + 1, (h.bl.upd (h.nx) (cellsO [.int .i64 t, .int .i64 r] 24 false)), h.lo⟩ := ⟨_, rfl⟩
  have le_hA : Le h hA := by subst e_hA; exact ((Le.refl h).new _)
  have g1 : hA.bl.get (h.nx) = some (cellsO [.int .i64 t, .int .i64 r] 24 false) := by subst e_hA; exact T.get_upd_same _ _ _
  have n_hA : hA.nx = h.nx + 1 := by subst e_hA; rfl
  have l_hA : hA.lo = h.lo := by subst e_hA; rfl
  rw [← e_hA]
  clear e_hA
  refine callW_of mixed ?_
  rw [rs_94]
  simp (disch := first | omega | (simp only [Wx]; done) | (simp only [Wy]; done) | (simp only [Wv]; omega) | with_unfolding_all rfl) only [Wz, ptrTo, sliceTo, g1]
  by_cases h0 : t = -1 ∧ r = -1
  · simp (disch := first | omega | (simp only [Wx]; done) | (simp only [Wy]; done) | (simp only [Wv]; omega) | with_unfolding_all rfl) only [Wz, ptrTo, sliceTo, g1, reV, veq_nm, bin_eqN, dec_t h0]
    exact hk _ _ (le_hA.trans ((Le.refl hA).new _))
  by_cases h1 : t < 0
  · simp (disch := first | omega | (simp only [Wx]; done) | (simp only [Wy]; done) | (simp only [Wv]; omega) | with_unfolding_all rfl) only [Wz, ptrTo, sliceTo, g1, reV, veq_nm, bin_eqN, dec_f h0, rs_43_0, lt_t h1]
    exact hk _ _ (le_hA.trans ((Le.refl hA).new _))
  by_cases h2 : t < 100
  case neg =>
    simp (disch := first | omega | (simp only [Wx]; done) | (simp only [Wy]; done) | (simp only [Wv]; omega) | with_unfolding_all rfl) only [Wz, ptrTo, sliceTo, g1, reV, veq_nm, bin_eqN, dec_f h0, rs_43_0, dec_f h1, dec_f h2]
    exact hk _ _ (le_hA.trans ((Le.refl hA).new _))
  by_cases h3 : r < -1
  · simp (disch := first | omega | (simp only [Wx]; done) | (simp only [Wy]; done) | (simp only [Wv]; omega) | with_unfolding_all rfl) only [Wz, ptrTo, sliceTo, g1, reV, veq_nm, bin_eqN, dec_f h0, rs_43_0, dec_f h1, dec_t h2, dec_t h3]
    exact hk _ _ (le_hA.trans ((Le.refl hA).new _))
  by_cases h4 : r < 100
  case neg =>
    simp (disch := first | omega | (simp only [Wx]; done) | (simp only [Wy]; done) | (simp only [Wv]; omega) | with_unfolding_all rfl) only [Wz, ptrTo, sliceTo, g1, reV, veq_nm, bin_eqN, dec_f h0, rs_43_0, dec_f h1, dec_t h2, dec_f h3, dec_f h4]
    exact hk _ _ (le_hA.trans ((Le.refl hA).new _))
  by_cases h5 : r = -1
  · simp (disch := first | omega | (simp only [Wx]; done) | (simp only [Wy]; done) | (simp only [Wv]; omega) | with_unfolding_all rfl) only [Wz, ptrTo, sliceTo, g1, reV, veq_nm, bin_eqN, dec_f h0, rs_43_0, dec_f h1, dec_t h2, dec_f h3, dec_t h4, dec_t h5]
    exact hk _ _ (le_hA.trans ((Le.refl hA).new _))
  · simp (disch := first | omega | (simp only [Wx]; done) | (simp only [Wy]; done) | (simp only [Wv]; omega) | with_unfolding_all rfl) only [Wz, ptrTo, sliceTo, g1, reV, veq_nm, bin_eqN, dec_f h0, rs_43_0, dec_f h1, dec_t h2, dec_f h3, dec_t h4, dec_f h5]
    exact hk _ _ (le_hA.trans ((Le.refl hA).new _))
theorem checkAny_w (t r : Int) (h : Heap) (hlo : h.lo ≤ h.nx) (κ : Value → Heap → Prop) (hk : ∀ h' e, Le h h' → κ (.int .i64 e) h') : CallW Tryz.prog 9 [nmV t r] h κ := by
  refine callW_of mixed ?_
  rw [rs_9]
  simp (disch := first | omega | (simp only [Wx]; done) | (simp only [Wy]; done) | (simp only [Wv]; omega) | with_unfolding_all rfl) only [Wz, ptrTo, sliceTo, nmV]
  obtain ⟨hA, e_hA⟩ : ∃ hA : Heap, hA = ⟨h.nx + 1, (h.bl.upd (h.nx) (cellsO [.int .i64 t, .int .i64 r] 24 false)), h.lo⟩ := ⟨_, rfl⟩
  have le_hA : Le h hA := by subst e_hA; exact ((Le.refl h).new _)
  have g1 : hA.bl.get (h.nx) = some (cellsO [.int .i64 t, .int .i64 r] 24 false) := by subst e_hA; exact T.get_upd_same _ _ _
  have n_hA : hA.nx = h.nx + 1 := by subst e_hA; rfl
  have l_hA : hA.lo = h.lo := by subst e_hA; rfl
  rw [← e_hA]
  clear e_hA
  refine levelAny_w t r hA (by omega) _ ?_
  intro h2 e le2
  by_cases h0 : e < 0
  · simp (disch := first | omega | (simp only [Wx]; done) | (simp only [Wy]; done) | (simp only [Wv]; omega) | with_unfolding_all rfl) only [Wz, ptrTo, sliceTo, dec_t h0]
    exact hk _ _ (le_hA.trans le2)
  · simp (disch := first | omega | (simp only [Wx]; done) | (simp only [Wy]; done) | (simp only [Wv]; omega) | with_unfolding_all rfl) only [Wz, ptrTo, sliceTo, dec_f h0]
    exact hk _ _ (le_hA.trans le2)
end Go.Proofs

namespace Go.Proofs
open Go.Vai Go.Clashes
theorem Aside.congr {h : Heap} {Ts Ts' Us Us' : List TB} {bw bw2 bp bp2 bl bl2 : Nat} (a : Aside h Ts Us bw bw2 bp bp2 bl bl2) (e1 : Ts'.map (·.bm) = Ts.map (·.bm)) (e2 : Us'.map (·.bm) = Us.map (·.bm)) {h' : Heap} (fb : ∀ x, FB h' bp x → FB h' bp2 x → False) : Aside h' Ts' Us' bw bw2 bp bp2 bl bl2 := by
  have key : ∀ {A A' : List TB}, A'.map (·.bm) = A.map (·.bm) → ∀ b ∈ A', ∃ b0 ∈ A, b0.bm = b.bm := by
    intro A A' e b hb
    have : b.bm ∈ A.map (·.bm) := by rw [← e]; exact List.mem_map.2 ⟨b, hb, rfl⟩
    obtain ⟨b0, h0, h1⟩ := List.mem_map.1 this
    exact ⟨b0, h0, h1⟩
  refine ⟨fun b hb u hu => ?_, fun b hb => ?_, fun u hu => ?_, a.ww, a.pp, a.ll, fb⟩
  · obtain ⟨b0, k0, k1⟩ := key e1 b hb
    obtain ⟨u0, j0, j1⟩ := key e2 u hu
    rw [← k1, ← j1]; exact a.mm b0 k0 u0 j0
  · obtain ⟨b0, k0, k1⟩ := key e1 b hb
    rw [← k1]; exact a.wm b0 k0
  · obtain ⟨u0, j0, j1⟩ := key e2 u hu
    rw [← j1]; exact a.mw u0 j0
/-- two tables, after i calls -/
structure Two (h hA : Heap) (c : Caps) (tb bw bp bl tb2 bw2 bp2 bl2 : Nat) (vb vb2 : Value) (heads heads2 i : Nat) (t r : Int) (N N2 : Nat) (Ts Us : List TB) (W W2 : List IE) (wc wc2 : Nat) (F G : List Int) (B B2 : List Bool) : Prop where
  sT : TSt h tb bw bp bl c vb heads N Ts W wc F B
  sU : TSt h tb2 bw2 bp2 bl2 c vb2 heads2 N2 Us W2 wc2 G B2
  asd : Aside h Ts Us bw bw2 bp bp2 bl bl2
  n1 : N ≤ i
  n2 : N2 ≤ i
  l1 : (lentL B).length ≤ i
  l2 : (lentL B2).length ≤ i
  new : (∀ b ∈ Ts, hA.nx ≤ b.bm) ∧ hA.nx ≤ bw ∧ hA.nx ≤ bp ∧ hA.nx ≤ bl
  new2 : (∀ b ∈ Us, hA.nx ≤ b.bm) ∧ hA.nx ≤ bw2 ∧ hA.nx ≤ bp2 ∧ hA.nx ≤ bl2
  le : Le hA h
theorem Two.leH {h h' hA : Heap} {c : Caps} {tb bw bp bl tb2 bw2 bp2 bl2 : Nat} {vb vb2 : Value} {heads heads2 i : Nat} {t r : Int} {N N2 : Nat} {Ts Us : List TB} {W W2 : List IE} {wc wc2 : Nat} {F G : List Int} {B B2 : List Bool} (w : Two h hA c tb bw bp bl tb2 bw2 bp2 bl2 vb vb2 heads heads2 i t r N N2 Ts Us W W2 wc wc2 F G B B2) (l : Le h h') : Two h' hA c tb bw bp bl tb2 bw2 bp2 bl2 vb vb2 heads heads2 i t r N N2 Ts Us W W2 wc wc2 F G B B2 :=
  ⟨w.sT.le l, w.sU.le l, w.asd.congr rfl rfl fun x h1 h2 => w.asd.fb x ((FB.congr (l.get _ w.sT.is.pool.fr.lt)).1 h1) ((FB.congr (l.get _ w.sU.is.pool.fr.lt)).1 h2), w.n1, w.n2, w.l1, w.l2, w.new, w.new2, w.le.trans l⟩
theorem lent_set {B : List Bool} {n : Nat} (h : B[n]? = some false) : (lentL (B.set n true)).length = (lentL B).length + 1 := by
  rw [(lent_take h).length_eq, List.length_append]; rfl
def Sim (S t r : Int) (Ts Us : List TB) : Prop := ∀ (k : Nat) b u, strN t r S = (k : Int) → Ts[k]? = some b → Us[k]? = some u → SimB b.M u.M
/-- what a call of Ask came to -/
def Outcome (Ts Ts' : List TB) (c : Caps) (heads : Nat) (F : List Int) (B : List Bool) (bp bl : Nat) (t r x m : Int) : Prop :=
  (Ts' = Ts ∧ AskNo Ts c heads F t r x m) ∨ ∃ (k : Nat) (b : TB) (M' : List HE) (cl' : Nat) (F' : List Int) (h0 h1 : Heap) (n : Nat) (g : Bool), Ts[k]? = some b ∧ strN t r c.S = (k : Int) ∧ askedM m = true ∧ (∀ e ∈ b.M, t = e.t → r = e.r → ∀ p ∈ e.Q, p.x ≠ x) ∧ BucketIs h0 b.bb b.bm bp bl heads b.M b.clock F B ∧ Asked h0 h1 b.bb b.bm bp bl heads b.M M' cl' F F' B t r x m n g ∧ Ts' = Ts.set k ⟨b.bb, b.bm, M', cl'⟩
theorem Outcome.len {Ts Ts' : List TB} {c : Caps} {heads : Nat} {F : List Int} {B : List Bool} {bp bl : Nat} {t r x m : Int} (o : Outcome Ts Ts' c heads F B bp bl t r x m) : Ts'.length = Ts.length := by
  rcases o with ⟨rfl, _⟩ | ⟨k, b, M', cl', F', h0, h1, n, g, _, _, _, _, _, _, rfl⟩
  · rfl
  · rw [List.length_set]
theorem Outcome.bm {Ts Ts' : List TB} {c : Caps} {heads : Nat} {F : List Int} {B : List Bool} {bp bl : Nat} {t r x m : Int} (o : Outcome Ts Ts' c heads F B bp bl t r x m) : Ts'.map (·.bm) = Ts.map (·.bm) := by
  rcases o with ⟨rfl, _⟩ | ⟨k, b, M', cl', F', h0, h1, n, g, hk, _, _, _, _, _, rfl⟩
  · rfl
  · exact set_bm hk M' cl'
theorem sim_skip {Ts Ts' Us : List TB} {c : Caps} {heads : Nat} {F : List Int} {B : List Bool} {bp bl : Nat} {t r x m t0 r0 : Int} (sim : Sim c.S t0 r0 Ts Us) (o : Outcome Ts Ts' c heads F B bp bl t r x m) (hne : strN t r c.S ≠ strN t0 r0 c.S) : Sim c.S t0 r0 Ts' Us := by
  rcases o with ⟨rfl, _⟩ | ⟨k, b, M', cl', F', h0, h1, n, g, hk, hst, _, _, _, _, rfl⟩
  · exact sim
  · intro j y u hj hy hu
    rcases set_cases hy with ⟨rfl, _⟩ | ⟨_, hy⟩
    · exact absurd (hst.trans hj.symm) hne
    · exact sim j y u hj hy hu
/-- no want of room: then both take it, or none -/
theorem sim_both {Ts Ts' Us Us' : List TB} {c : Caps} {heads heads2 : Nat} {F G : List Int} {B B2 : List Bool} {bp bl bp2 bl2 : Nat} {t r x m t0 r0 : Int} (sim : Sim c.S t0 r0 Ts Us) (hl : Us.length = Ts.length) (o : Outcome Ts Ts' c heads F B bp bl t r x m) (o2 : Outcome Us Us' c heads2 G B2 bp2 bl2 t r x m)
    (rT : F ≠ [] ∧ ∀ b ∈ Ts, b.M.length < heads) (rU : G ≠ [] ∧ ∀ b ∈ Us, b.M.length < heads2) (he : strN t r c.S = strN t0 r0 c.S) : Sim c.S t0 r0 Ts' Us' := by
  have no : ∀ {As : List TB} {hd : Nat} {X : List Int}, (X ≠ [] ∧ ∀ b ∈ As, b.M.length < hd) → AskNo As c hd X t r x m → ∀ (k : Nat) (b : TB), strN t r c.S = (k : Int) → As[k]? = some b → askedM m = true → (∀ e ∈ b.M, t = e.t → r = e.r → ∀ p ∈ e.Q, p.x ≠ x) → False := by
    intro As hd X room hno k b hk hb am tw
    rcases hno with hneg | ⟨k2, b2, hk2, hs2, hc⟩
    · omega
    · have : k2 = k := by omega
      subst this
      rw [hb] at hk2; cases hk2
      rcases hc with h1 | ⟨e, he, h1, h2, p, hp, h3⟩ | h1 | ⟨_, h1⟩
      · rw [am] at h1; cases h1
      · exact tw e he h1 h2 p hp h3
      · exact room.1 h1
      · have := room.2 b (List.mem_of_getElem? hb); omega
  have tw : ∀ {M U : List HE}, SimB M U → (∀ e ∈ M, t = e.t → r = e.r → ∀ p ∈ e.Q, p.x ≠ x) → ∀ e ∈ U, t = e.t → r = e.r → ∀ p ∈ e.Q, p.x ≠ x := by
    intro M U sm h e heU ht hr p hp hx
    obtain ⟨f, hf, d1, d2, _, d4⟩ := sm.fro e heU
    obtain ⟨i, hi⟩ := List.getElem?_of_mem hp
    obtain ⟨q, hq, hs⟩ := d4.getS hi
    exact h f hf (by omega) (by omega) q (List.mem_of_getElem? hq) (by rw [← (strip_eq hs).1]; exact hx)
  rcases o with ⟨rfl, hno⟩ | ⟨k, b, M', cl', F', h0, h1, n, g, hk, hst, am, htw, is, ak, rfl⟩
  · rcases o2 with ⟨rfl, _⟩ | ⟨k, b, M', cl', F', h0, h1, n, g, hk, hst, am, htw, is, ak, rfl⟩
    · exact sim
    · obtain ⟨b0, hb0⟩ : ∃ b0, Ts'[k]? = some b0 := ⟨_, List.getElem?_eq_getElem (by have := (List.getElem?_eq_some_iff.1 hk).1; omega)⟩
      have sm := sim k b0 b (he ▸ hst) hb0 hk
      exact absurd (no rT hno k b0 hst hb0 am (tw sm.symm htw)) id
  · rcases o2 with ⟨rfl, hno⟩ | ⟨k2, b2, M2, cl2, F2, h02, h12, n2, g2, hk2, hst2, am2, htw2, is2, ak2, rfl⟩
    · obtain ⟨b0, hb0⟩ : ∃ b0, Us'[k]? = some b0 := ⟨_, List.getElem?_eq_getElem (by have := (List.getElem?_eq_some_iff.1 hk).1; omega)⟩
      have sm := sim k b b0 (he ▸ hst) hk hb0
      exact absurd (no rU hno k b0 hst hb0 am (tw sm htw)) id
    · have : k2 = k := by omega
      subst this
      have sm := sim k2 b b2 (he ▸ hst) hk hk2
      have sm2 := SimB.ask sm am is ak is2 ak2
      intro j y u hj hy hu
      have hj2 : j = k2 := by omega
      subst hj2
      rcases set_cases hy with ⟨_, rfl⟩ | ⟨hne, _⟩
      · rcases set_cases hu with ⟨_, rfl⟩ | ⟨hne, _⟩
        · exact sm2
        · exact absurd rfl hne
      · exact absurd rfl hne
end Go.Proofs

namespace Go.Proofs
open Go.Vai Go.Clashes
section
variable {h hA : Heap} {c : Caps} {tb bw bp bl tb2 bw2 bp2 bl2 : Nat} {vb vb2 : Value} {heads heads2 i : Nat} {t r : Int} {N N2 : Nat} {Ts Us : List TB} {W W2 : List IE} {wc wc2 : Nat} {F G : List Int} {B B2 : List Bool}
theorem Two.swap (w : Two h hA c tb bw bp bl tb2 bw2 bp2 bl2 vb vb2 heads heads2 i t r N N2 Ts Us W W2 wc wc2 F G B B2) : Two h hA c tb2 bw2 bp2 bl2 tb bw bp bl vb2 vb heads2 heads i t r N2 N Us Ts W2 W wc2 wc G F B2 B :=
  ⟨w.sU, w.sT, w.asd.symm, w.n2, w.n1, w.l2, w.l1, w.new2, w.new, w.le⟩
/-- one table is asked -/
theorem Two.ask (w : Two h hA c tb bw bp bl tb2 bw2 bp2 bl2 vb vb2 heads heads2 i t r N N2 Ts Us W W2 wc wc2 F G B B2) (hlo : h.lo ≤ h.nx) (hi : i ≤ 100) (hno : ∀ c ws t', hA.bl.get c ≠ some (cellsO ws t' true)) (t' r' x m : Int) (κ : Value → Heap → Prop)
    (hk : ∀ u h' N' Ts' W' wc' F' B', Two h' hA c tb bw bp bl tb2 bw2 bp2 bl2 vb vb2 heads heads2 (i + 1) t r N' N2 Ts' Us W' W2 wc' wc2 F' G B' B2 → Outcome Ts Ts' c heads F B bp bl t' r' x m → (lentL B').length ≤ (lentL B).length + 1 → h'.lo ≤ h'.nx → (∀ d vs ty, d < h.nx → h.bl.get d = some (cellsO vs ty false) → ty ≠ 132 → ty ≠ 4 → ty ≠ 3 → h'.bl.get d = h.bl.get d) → h.nx ≤ h'.nx → κ u h') :
    CallW Tryz.prog 11 [.pointer (some ⟨tb, 0, none⟩), nmV t' r', .int .i64 x, .int .i64 m] h κ := by
  have n1 := w.n1
  have n2 := w.n2
  have l1 := w.l1
  have l2 := w.l2
  refine tAskR_w w.sT hlo (by omega) t' r' x m _ ?_ ?_
  · intro h' e _ hn le
    have w' := w.leH le
    have k1 := le.nx
    have k2 := le.lo
    exact hk _ h' N Ts W wc F B ⟨w'.sT, w'.sU, w'.asd, by omega, by omega, by omega, by omega, w'.new, w'.new2, w'.le⟩ (.inl ⟨rfl, hn⟩) (by omega) (by omega) (fun d vs ty hd hg _ _ _ => le.get d hd) k1
  · intro k b M' cl' F' W' wc' h0 h1 h' n g hkb hst am tw isb ak s' fr
    have k1 := fr.nx
    have k2 := fr.lo
    obtain ⟨sU', fb'⟩ := TSt.other w.sT.is fr w.sU w.asd
    have hl := lent_set ak.old
    have hbm := set_bm hkb M' cl'
    refine hk _ h' (N + 1) _ W' wc' F' (B.set n true) ⟨s', sU', w.asd.congr hbm rfl fb', by omega, by omega, by omega, by omega, ⟨fun y hy => ?_, w.new.2⟩, w.new2, ⟨?_, ?_, fun d hd => ?_⟩⟩ (.inr ⟨k, b, M', cl', F', h0, h1, n, g, hkb, hst, am, tw, isb, ak, rfl⟩) (by omega) (by omega) (fun d vs ty hd hg e1 e2 e3 => fr.keep w.sT.is hd hg e1 e2 e3) k1
    · have : y.bm ∈ Ts.map (·.bm) := by rw [← hbm]; exact List.mem_map.2 ⟨y, hy, rfl⟩
      obtain ⟨b0, h0, e0⟩ := List.mem_map.1 this
      rw [← e0]; exact w.new.1 b0 h0
    · exact Nat.le_trans w.le.nx k1
    · exact k2.trans w.le.lo
    · have hg := w.le.get d hd
      have hn := w.le.nx
      obtain ⟨m1, m2, m3, m4⟩ := w.new
      refine (fr.get d (by omega) (fun y hy => ?_) (by omega) (by omega) (by omega) fun vs => ?_).trans hg
      · have := m1 y hy; omega
      · rw [hg]; exact hno d vs _
theorem Two.up (w : Two h hA c tb bw bp bl tb2 bw2 bp2 bl2 vb vb2 heads heads2 i t r N N2 Ts Us W W2 wc wc2 F G B B2) {j : Nat} (hj : i ≤ j) : Two h hA c tb bw bp bl tb2 bw2 bp2 bl2 vb vb2 heads heads2 j t r N N2 Ts Us W W2 wc wc2 F G B B2 :=
  ⟨w.sT, w.sU, w.asd, Nat.le_trans w.n1 hj, Nat.le_trans w.n2 hj, Nat.le_trans w.l1 hj, Nat.le_trans w.l2 hj, w.new, w.new2, w.le⟩
theorem TSt.none_yet {h : Heap} {tb bw bp bl : Nat} {c : Caps} {vb : Value} {heads N : Nat} {Ts : List TB} {W : List IE} {wc : Nat} {F : List Int} {B : List Bool} (s : TSt h tb bw bp bl c vb heads N Ts W wc F B) (hn : lentL B = []) : ∀ b ∈ Ts, b.M = [] := by
  intro b hb
  cases hM : b.M with
  | nil => rfl
  | cons e M =>
    have he : e ∈ b.M := by rw [hM]; exact .head _
    have hne := ((s.is.bk b hb).good e he).ne
    cases hQ : e.Q with
    | nil => exact absurd hQ hne
    | cons p Q =>
      have hx : p.id ∈ lentL B := s.ids.mem_iff.1 (List.mem_flatMap.2 ⟨b, hb, mem_idsM.2 ⟨e, he, p, by rw [hQ]; exact .head _, rfl⟩⟩)
      rw [hn] at hx; cases hx
end
end Go.Proofs
