/-
  PROVED HERE: a part of the proof, by a calculus of weakest conditions over an abstract heap (E1, E2, E3, E4, E5, E6, E7).
-/
import Derived.Test.YtlmkplcfmngigaaP1
import Derived.Test.YtlmkplcfmngigaaG1
set_option linter.unusedVariables false
set_option linter.unusedSimpArgs false
set_option maxRecDepth 100000
namespace Go.Proofs
open Go.Vai Go.Clashes
/-! ## the reference: ref02 -/
theorem rdb_a : answersS Try.prog 100 101 [] (nmV (-1) (-1)) = true := by kernel_rfl
theorem rdatabase_w {h : Heap} {κ : Value → Heap → Prop} (hk : κ (nmV (-1) (-1)) h) : CallW Try.prog 101 [] h κ := closedW mixed rdb_a hk
theorem rlevel_w (t r : Int) {h : Heap} {κ : Value → Heap → Prop} (hk : κ (.int .i64 (lvl t r)) h) : CallW Try.prog 53 [nmV t r] h κ := by
  refine pureW (v := .int .i64 (lvl t r)) rfl rfl (callW_of mixed ?_) hk
  rw [rs_53]
  simp (disch := first | omega | (simp only [Wx]; done) | (simp only [Wy]; done) | (simp only [Wv]; omega) | with_unfolding_all rfl) only [Wz, ptrTo, sliceTo, nmV]
  refine rdatabase_w ?_
  by_cases h1 : t = -1 ∧ r = -1
  · simp (disch := first | omega | (simp only [Wx]; done) | (simp only [Wy]; done) | (simp only [Wv]; omega) | with_unfolding_all rfl) only [Wz, ptrTo, sliceTo, nmV, bin_eq27, dec_t h1]
    simp [lvl, h1]
  · simp (disch := first | omega | (simp only [Wx]; done) | (simp only [Wy]; done) | (simp only [Wv]; omega) | with_unfolding_all rfl) only [Wz, ptrTo, sliceTo, nmV, bin_eq27, dec_f h1, rs_53_0]
    by_cases a1 : t < 0
    · simp (disch := first | omega | (simp only [Wx]; done) | (simp only [Wy]; done) | (simp only [Wv]; omega) | with_unfolding_all rfl) only [Wz, ptrTo, sliceTo]; simp [lvl, h1, within]; omega
    · by_cases a2 : 100 ≤ t
      · simp (disch := first | omega | (simp only [Wx]; done) | (simp only [Wy]; done) | (simp only [Wv]; omega) | with_unfolding_all rfl) only [Wz, ptrTo, sliceTo]; simp [lvl, h1, within]; omega
      · by_cases a3 : r < -1
        · simp (disch := first | omega | (simp only [Wx]; done) | (simp only [Wy]; done) | (simp only [Wv]; omega) | with_unfolding_all rfl) only [Wz, ptrTo, sliceTo]; simp [lvl, h1, within]; omega
        · by_cases a4 : 100 ≤ r
          · simp (disch := first | omega | (simp only [Wx]; done) | (simp only [Wy]; done) | (simp only [Wv]; omega) | with_unfolding_all rfl) only [Wz, ptrTo, sliceTo]; simp [lvl, h1, within]; omega
          · by_cases a5 : r = -1
            · simp (disch := first | omega | (simp only [Wx]; done) | (simp only [Wy]; done) | (simp only [Wv]; omega) | with_unfolding_all rfl) only [Wz, ptrTo, sliceTo, dec_t a5]; simp [lvl, h1, within]; omega
            · simp (disch := first | omega | (simp only [Wx]; done) | (simp only [Wy]; done) | (simp only [Wv]; omega) | with_unfolding_all rfl) only [Wz, ptrTo, sliceTo, dec_f a5]; simp [lvl, h1, within]; omega
theorem rcheck_w (t r : Int) {h : Heap} {κ : Value → Heap → Prop} (hk : κ (.int .i64 (if okN t r then 0 else 2)) h) : CallW Try.prog 57 [nmV t r] h κ := by
  refine pureW (v := .int .i64 (if okN t r then 0 else 2)) rfl rfl (callW_of mixed ?_) hk
  rw [rs_57]
  simp (disch := first | omega | (simp only [Wx]; done) | (simp only [Wy]; done) | (simp only [Wv]; omega) | with_unfolding_all rfl) only [Wz, ptrTo, sliceTo, nmV]
  refine rlevel_w t r ?_
  rcases lvl_cases t r with h1 | h1 | h1 | h1 <;> simp (disch := first | omega | (simp only [Wx]; done) | (simp only [Wy]; done) | (simp only [Wv]; omega) | with_unfolding_all rfl) only [Wz, ptrTo, sliceTo, h1] <;> simp [okN, h1]
end Go.Proofs

namespace Go.Proofs
open Go.Vai Go.Clashes
theorem relig_w (t r m : Int) {h : Heap} {κ : Value → Heap → Prop} (hk : κ (.bool (elig t r m)) h) : CallW Try.prog 31 [nmV t r, .int .i64 m] h κ := by
  refine pureW (v := .bool (elig t r m)) rfl rfl (callW_of mixed ?_) hk
  rw [rs_31]
  simp (disch := first | omega | (simp only [Wx]; done) | (simp only [Wy]; done) | (simp only [Wv]; omega) | with_unfolding_all rfl) only [Wz, ptrTo, sliceTo, nmV]
  refine rcheck_w t r ?_
  have : (m = 1 ∨ m = 2 ∨ m = 3) ∨ (m < 1 ∨ 3 < m) := by omega
  rcases lvl_cases t r with h1 | h1 | h1 | h1
  all_goals first
    | (have hok : okN t r = true := by simp [okN, h1]
       simp (disch := first | omega | (simp only [Wx]; done) | (simp only [Wy]; done) | (simp only [Wv]; omega) | with_unfolding_all rfl) only [Wz, ptrTo, sliceTo, hok]
       refine rlevel_w t r ?_
       rcases this with (h2 | h2 | h2) | (h2 | h2) <;> simp (disch := first | omega | (simp only [Wx]; done) | (simp only [Wy]; done) | (simp only [Wv]; omega) | with_unfolding_all rfl) only [Wz, ptrTo, sliceTo, h1, h2] <;> simp [elig, h1, h2] <;> omega)
    | (have hok : okN t r = false := by simp [okN, h1]
       simp (disch := first | omega | (simp only [Wx]; done) | (simp only [Wy]; done) | (simp only [Wv]; omega) | with_unfolding_all rfl) only [Wz, ptrTo, sliceTo, hok, dec_f (show ¬ (2 : Int) = 0 by decide)]
       simp [elig, h1]
       simp (disch := first | omega | (simp only [Wx]; done) | (simp only [Wy]; done) | (simp only [Wv]; omega) | with_unfolding_all rfl) only [Wz, ptrTo, sliceTo]
       done)
end Go.Proofs

namespace Go.Proofs
open Go.Vai Go.Clashes
def MI (L : List H4) (t r : Int) (i : Nat) : Prop := modeOf L t r = modeOf (L.drop i) t r
def HE (a b : Heap) : Prop := a = b
theorem rmode_w (L : List H4) (t r : Int) (h : Heap) (v : Value) (κ : Value → Heap → Prop) (hv : Sl enc4 h v L) (hlen : L.length ≤ 1000000) (hlo : h.lo ≤ h.nx) (hk : ∀ h', Le h h' → κ (.int .i64 (modeOf L t r)) h') :
    CallW Try.prog 70 [v, nmV t r] h κ := by
  refine callW_of mixed ?_
  rw [rs_70]
  simp (disch := first | omega | (simp only [Wx]; done) | (simp only [Wy]; done) | (simp only [Wv]; omega) | with_unfolding_all rfl) only [Wz, ptrTo, sliceTo, nmV]
  have hle := (Le.refl h).new (cellsO [.int .i64 t, .int .i64 r] 27 false)
  have hg : (⟨h.nx + 1, h.bl.upd h.nx (cellsO [.int .i64 t, .int .i64 r] 27 false), h.lo⟩ : Heap).bl.get h.nx = some (cellsO [.int .i64 t, .int .i64 r] 27 false) := T.get_upd_same _ _ _
  generalize (⟨h.nx + 1, h.bl.upd h.nx (cellsO [.int .i64 t, .int .i64 r] 27 false), h.lo⟩ : Heap) = hh at hle hg ⊢
  refine ⟨fun n l h1 => ∃ i : Nat, slot l 19 = .int .i64 (i : Int) ∧ i ≤ L.length ∧ n = L.length - i ∧ MI L t r i ∧ HE hh h1, ⟨_, 0, rfl, Nat.zero_le _, rfl, rfl, rfl⟩, ?_⟩
  rintro n l h1 ⟨i, s1, hi, rfl, hm, hh1⟩
  cases (show hh = h1 from hh1)
  clear hh1
  by_cases hlt : i < L.length
  · obtain ⟨p, hp⟩ : ∃ p, L[i]? = some p := ⟨_, List.getElem?_eq_getElem hlt⟩
    have hdr : L.drop i = p :: L.drop (i + 1) := by
      rw [List.drop_eq_getElem_cons hlt]
      rw [List.getElem?_eq_getElem hlt] at hp
      cases hp; rfl
    obtain ⟨b, o, hb, hat, hld⟩ := ld4 hv i hp
    by_cases he : p.t = t ∧ p.r = r
    · simp (disch := first | omega | (simp only [Wx]; done) | (simp only [Wy]; done) | (simp only [Wv]; omega) | with_unfolding_all rfl) only [Wz, ptrTo, sliceTo, hv.len, s1, rs_70_0, hat, hle.get, hg, hld, bin_eq27, dec_t he]
      have := hk _ hle
      rw [show modeOf L t r = _ from hm, hdr] at this
      simpa [modeOf, named, he] using this
    · simp (disch := first | omega | (simp only [Wx]; done) | (simp only [Wy]; done) | (simp only [Wv]; omega) | with_unfolding_all rfl) only [Wz, ptrTo, sliceTo, hv.len, s1, rs_70_0, hat, hle.get, hg, hld, bin_eq27, dec_f he]
      refine ⟨_, by omega, i + 1, rfl, by omega, rfl, ?_, rfl⟩
      show _ = _
      rw [show modeOf L t r = _ from hm, hdr]
      simp [modeOf, named, he]
  · simp (disch := first | omega | (simp only [Wx]; done) | (simp only [Wy]; done) | (simp only [Wv]; omega) | with_unfolding_all rfl) only [Wz, ptrTo, sliceTo, hv.len, s1]
    have := hk _ hle
    rw [show modeOf L t r = _ from hm, List.drop_of_length_le (by omega)] at this
    simpa [modeOf] using this
end Go.Proofs

namespace Go.Proofs
open Go.Vai Go.Clashes
def HE2 (a b : Heap) : Prop := a = b
def rcN (p x : H4) : Bool := decide (rCmp x.t x.r p.t p.r < 0)
/-- how many stand ahead of its place -/
def atR (L : List H4) (p : H4) : Nat := ((L.findIdx? fun x => !rcN p x)).getD L.length
def putR (L : List H4) (p : H4) : List H4 := match L.findIdx? (named p.t p.r) with
  | some i => L.set i p
  | none => L.take (atR L p) ++ [p] ++ L.drop (atR L p)
theorem atR_is {L : List H4} {p : H4} {i : Nat} (hi : i ≤ L.length) (h1 : ∀ j q, j < i → L[j]? = some q → rcN p q = true) (h2 : ∀ q, L[i]? = some q → rcN p q = false) : atR L p = i := by
  unfold atR
  by_cases hlt : i < L.length
  · have : L.findIdx? (fun x => !rcN p x) = some i := by
      rw [List.findIdx?_eq_some_iff_getElem]
      refine ⟨hlt, ?_, fun j hj => ?_⟩
      · rw [h2 _ (List.getElem?_eq_getElem hlt)]; rfl
      · rw [h1 j _ hj (List.getElem?_eq_getElem (by omega))]; simp
    rw [this]; rfl
  · have : L.findIdx? (fun x => !rcN p x) = none := by
      rw [List.findIdx?_eq_none_iff]
      intro x hx
      obtain ⟨j, hj, rfl⟩ := List.mem_iff_getElem.1 hx
      rw [h1 j _ (by omega) (List.getElem?_eq_getElem hj)]; rfl
    rw [this]
    show L.length = i
    omega
/-- the reference's Put -/
theorem rput_w (L : List H4) (p : H4) (h : Heap) (v : Value) (κ : Value → Heap → Prop) (hv : Sl enc4 h v L) (hlen : L.length ≤ 100000) (hlo : h.lo ≤ h.nx) (hk : ∀ v' h', Sl enc4 h' v' (putR L p) → Le h h' → κ v' h') :
    CallW Try.prog 51 [v, aggH p] h κ := by
  refine callW_of mixed ?_
  rw [rs_51]
  simp (disch := first | omega | (simp only [Wx]; done) | (simp only [Wy]; done) | (simp only [Wv]; omega) | with_unfolding_all rfl) only [Wz, ptrTo, sliceTo, aggH, enc4, repeatL_0]
  obtain ⟨hA, eA⟩ : ∃ hA : Heap, hA = ⟨h.nx + 1 + 1, (h.bl.upd h.nx (cellsO (enc4 p) 30 false)).upd (h.nx + 1) (cellsO [] 30 false), h.lo⟩ := ⟨_, rfl⟩
  have hleA : Le h hA := by subst eA; exact ((Le.refl h).new _).new _
  have gA : hA.bl.get h.nx = some (cellsO (enc4 p) 30 false) := by subst eA; exact (T.get_updne _ _ (by omega)).trans (T.get_upd_same _ _ _)
  have nA : hA.nx = h.nx + 1 + 1 := by subst eA; rfl
  have lA : hA.lo = h.lo := by subst eA; rfl
  simp only [enc4] at eA
  rw [← eA]
  clear eA
  -- the copy
  have key : ∀ (v5 : Value) (h5 : Heap), Own enc4 hA 30 h5 v5 L → (L = [] → (v5 = .slice none 0 0 ∨ ∃ b o, v5 = .slice (some ⟨b, o, none⟩) 0 0)) → Le hA h5 → LoopR [undef, undef, undef, undef, undef, undef, undef, undef, undef, undef, undef, undef, undef, undef, undef, undef, undef, (Value.slice none 0 0), undef, undef, (Value.int .i64 (0))] h5 fun l7 h N6 =>
      lenSli False v5 h fun v8 h =>
      binB False Try.prog .lss 3 false false (slot l7 20) v8 h fun v9 h =>
      CondW v9 (rs_51_2 v5 l7 (hA.nx - 2) N6 v8 v9 h κ) (
      LoopR [undef, undef, undef, undef, undef, undef, undef, undef, undef, undef, undef, undef, undef, undef, undef, undef, undef, (Value.int .i64 (0))] h fun l23 h N22 =>
      rs_51_1 l23 v5 (hA.nx - 2) N22 h κ) := by
    intro v5 h5 ho5 hemp hle5
    have n5 := hle5.nx
    have l5 := hle5.lo
    have g5 := (hle5.get h.nx (by omega)).trans gA
    have e7 : hA.nx - 2 = h.nx := by omega
    rw [e7]
    refine ⟨fun n l h1 => HE2 h5 h1 ∧ ∃ i : Nat, slot l 20 = .int .i64 (i : Int) ∧ i ≤ L.length ∧ n = L.length - i ∧ ∀ (j : Nat) q, j < i → L[j]? = some q → named p.t p.r q = false, ⟨_, rfl, 0, rfl, Nat.zero_le _, rfl, by omega⟩, ?_⟩
    rintro n l h1 ⟨hE, i, s1, hi, rfl, hno⟩
    cases (show h5 = h1 from hE)
    clear hE
    by_cases hlt : i < L.length
    · obtain ⟨q, hq⟩ : ∃ p, L[i]? = some p := ⟨_, List.getElem?_eq_getElem hlt⟩
      obtain ⟨b, o, hb, hat, hld⟩ := ld4 ho5.sl i hq
      by_cases hm : q.t = p.t ∧ q.r = p.r
      · have hfi : L.findIdx? (named p.t p.r) = some i := by
          rw [List.findIdx?_eq_some_iff_getElem]
          obtain ⟨hk1, hk2⟩ := List.getElem?_eq_some_iff.1 hq
          refine ⟨hk1, by rw [hk2]; simp [named, hm], fun j hj => ?_⟩
          have := hno j _ hj (List.getElem?_eq_getElem (by omega))
          simp [this]
        have hput : putR L p = L.set i p := by simp only [putR, hfi]
        rw [hput] at hk
        rcases ho5 with ⟨rfl, _⟩ | ⟨b', rfl, b1, b2, b3, b4⟩
        · simp at hlt
        · have hfl := flat4 L
          have hov := over_flat L i p hlt
          simp only [enc4] at hov
          have bat := hat (Option Addr) none h5 fun v _ => match v with | .pointer a => a | _ => none
          rw [indexAddr_eq _ _ _ _ _ _ _ _ hlt] at bat
          cases (show some (⟨b', 0 + i * 4, none⟩ : Addr) = some ⟨b, o, none⟩ from bat)
          simp only [Nat.zero_add] at hat hld
          simp (disch := first | omega | (simp only [Wx]; done) | (simp only [Wy]; done) | (simp only [Wv]; omega) | with_unfolding_all rfl) only [Wz, ptrTo, sliceTo, lenSli_eq, s1, rs_51_2, hat, hld, g5, enc4, bin_eq27, dec_t hm]
          simp (disch := first | omega | (simp only [Wx]; done) | (simp only [Wy]; done) | (simp only [Wv]; omega) | with_unfolding_all rfl) only [Wz, ptrTo, sliceTo, b4, hov]
          exact hk _ _ ⟨_, openCap, by rw [List.length_set], fun _ => ⟨b, 0, rfl, b2, by rw [T.get_upd_same]; exact Has.all⟩⟩ ((hleA.trans hle5).set (by omega) _)
      · simp (disch := first | omega | (simp only [Wx]; done) | (simp only [Wy]; done) | (simp only [Wv]; omega) | with_unfolding_all rfl) only [Wz, ptrTo, sliceTo, ho5.sl.len, s1, rs_51_2, hat, hld, g5, enc4, bin_eq27, dec_f hm]
        refine ⟨_, by omega, rfl, i + 1, rfl, by omega, rfl, fun j q' hj hq' => ?_⟩
        rcases Nat.lt_or_ge j i with h4 | h4
        · exact hno j q' h4 hq'
        · obtain rfl : j = i := by omega
          rw [hq] at hq'; cases hq'
          simp [named, hm]
    · have hfi : L.findIdx? (named p.t p.r) = none := by
        rw [List.findIdx?_eq_none_iff]
        intro q hq
        obtain ⟨j, hj, rfl⟩ := List.mem_iff_getElem.1 hq
        exact hno j _ (by omega) (List.getElem?_eq_getElem hj)
      simp (disch := first | omega | (simp only [Wx]; done) | (simp only [Wy]; done) | (simp only [Wv]; omega) | with_unfolding_all rfl) only [Wz, ptrTo, sliceTo, ho5.sl.len, s1]
      refine ⟨fun n l h1 => HE2 h5 h1 ∧ ∃ i : Nat, slot l 17 = .int .i64 (i : Int) ∧ i ≤ L.length ∧ n = L.length - i ∧ ∀ (j : Nat) q, j < i → L[j]? = some q → rcN p q = true, ⟨_, rfl, 0, rfl, Nat.zero_le _, rfl, by omega⟩, ?_⟩
      rintro n l h1 ⟨hE, i, s2, hi, rfl, hyes⟩
      cases (show h5 = h1 from hE)
      clear hE
      have fin : (∀ q, L[i]? = some q → rcN p q = false) → rs_51_0 v5 l h.nx h5 κ := by
        intro hstop
        have hat := atR_is hi hyes hstop
        have hput : putR L p = L.take i ++ [p] ++ L.drop i := by simp only [putR, hfi, hat]
        rw [hput] at hk
        have hle6 := (Le.refl h5).new (cellsO [] 30 false)
        obtain ⟨u, hu, hsl⟩ := (ho5.le hle6).tail enc4_len (by omega) i hi
        simp (disch := first | omega | (simp only [Wx]; done) | (simp only [Wy]; done) | (simp only [Wv]; omega) | with_unfolding_all rfl) only [Wz, ptrTo, sliceTo, rs_51_0, repeatL_0, s2, hsl]
        refine append_own (enc := enc4) (a := h5) (L := []) (M := L.drop i) enc4_len enc4_one (by omega) (by omega) (.inl ⟨rfl, .inr ⟨_, _, rfl⟩⟩) hu hle6 (by simp; omega) (by show h5.lo ≤ h5.nx + 1; omega) _ ?_
        intro r h7 hr7 hle7 _ _
        rw [List.nil_append] at hr7
        have n7 := hle7.nx
        have l7 := hle7.lo
        have ho7 := ho5.le hle7
        have g7 := (hle7.get h.nx (by omega)).trans g5
        have hre := hr7.same
        -- the new one's block
        have hle8 := (Le.refl h7).new (cellsO [.int .i64 p.x, .int .i64 p.t, .int .i64 p.r, .int .i64 p.m] 30 false)
        have ho8 := ho7.le hle8
        have hr8 := hr7.le hle8
        have happ := ref_insert (enc := enc4) (a := hA) (h := ⟨h7.nx + 1, h7.bl.upd h7.nx (cellsO [.int .i64 p.x, .int .i64 p.t, .int .i64 p.r, .int .i64 p.m] 30 false), h7.lo⟩) (g := h5) (e := 30) (z := [.int .i64 0, .int .i64 0, .int .i64 0, .int .i64 0]) (x := sliceTo 1 1 h7.nx) (p := p) enc4_len enc4_one (by omega) (by omega) ho8 hemp i hi hlen hr8
          (by
            intro b n c e hn
            rcases ho5 with ⟨rfl, _⟩ | ⟨b', e', b1, b2, b3, b4⟩
            · exact absurd rfl hn
            · rw [e'] at e; cases e; exact b2)
          ⟨_, 1, rfl, fun _ => ⟨h7.nx, 0, rfl, Nat.lt_succ_self _, by show Has ((T.upd _ _ _).get _) 0 _; rw [T.get_upd_same]; exact Has.all⟩⟩
          ((hle5.trans hle7).trans hle8) (by show h7.lo ≤ h7.nx + 1; omega) κ (fun v' h' hs hl => hk v' h' hs (hleA.trans hl))
        have hf7 := fun (β : Type) (fl : β) κ => ho7.head (β := β) (fl := fl) enc4_len (by omega) hemp i hi κ
        simp (disch := first | omega | (simp only [Wx]; done) | (simp only [Wy]; done) | (simp only [Wv]; omega) | with_unfolding_all rfl) only [Wz, ptrTo, sliceTo, s2, hf7, g7, enc4, hre]
        exact happ
      by_cases hlt2 : i < L.length
      · obtain ⟨q, hq⟩ : ∃ p, L[i]? = some p := ⟨_, List.getElem?_eq_getElem hlt2⟩
        obtain ⟨b, o, hb, hat, hld⟩ := ld4 ho5.sl i hq
        simp (disch := first | omega | (simp only [Wx]; done) | (simp only [Wy]; done) | (simp only [Wv]; omega) | with_unfolding_all rfl) only [Wz, ptrTo, sliceTo, ho5.sl.len, s2, rs_51_1, hat, hld, g5, enc4]
        refine rCompare_w q.t q.r p.t p.r ?_
        by_cases hc : rCmp q.t q.r p.t p.r < 0
        · simp (disch := first | omega | (simp only [Wx]; done) | (simp only [Wy]; done) | (simp only [Wv]; omega) | with_unfolding_all rfl) only [Wz, ptrTo, sliceTo, s2]
          refine ⟨_, by omega, rfl, i + 1, rfl, by omega, rfl, fun j q' hj hq' => ?_⟩
          rcases Nat.lt_or_ge j i with h4 | h4
          · exact hyes j q' h4 hq'
          · obtain rfl : j = i := by omega
            rw [hq] at hq'; cases hq'
            simp [rcN, hc]
        · simp (disch := first | omega | (simp only [Wx]; done) | (simp only [Wy]; done) | (simp only [Wv]; omega) | with_unfolding_all rfl) only [Wz, ptrTo, sliceTo, dec_f hc]
          exact fin fun q' hq' => by rw [hq] at hq'; cases hq'; simp [rcN]; omega
      · simp (disch := first | omega | (simp only [Wx]; done) | (simp only [Wy]; done) | (simp only [Wv]; omega) | with_unfolding_all rfl) only [Wz, ptrTo, sliceTo, ho5.sl.len, s2, rs_51_1]
        exact fin fun q' hq' => by rw [List.getElem?_eq_none (by omega)] at hq'; cases hq'
  have e8 : hA.nx - 2 = h.nx := by omega
  rw [e8] at key
  by_cases hL : L = []
  · subst hL
    rw [append_nil (enc := enc4) (hv.le hleA) ⟨_, _, _, rfl⟩]
    exact key _ hA (.inl ⟨rfl, .inr ⟨_, _, rfl⟩⟩) (fun _ => .inr ⟨_, _, rfl⟩) (Le.refl _)
  · refine append_own (enc := enc4) (a := hA) (L := []) (M := L) enc4_len enc4_one (by omega) (by omega) (.inl ⟨rfl, .inr ⟨_, _, rfl⟩⟩) (hv.le hleA) (Le.refl _) (by simp; omega) (by omega) _ ?_
    intro v5 h5 ho5 hle5 _ _
    exact key v5 h5 (by simpa using ho5) (fun e => absurd e hL) hle5
end Go.Proofs

namespace Go.Proofs
open Go.Vai Go.Clashes
/-- the reference's Drop -/
theorem rdrop_w (L : List H4) (t r : Int) (h : Heap) (v : Value) (κ : Value → Heap → Prop) (hv : Sl enc4 h v L) (hlen : L.length ≤ 100000) (hlo : h.lo ≤ h.nx) (hk : ∀ v' h', Sl enc4 h' v' (dropH L t r) → veq 8 v' v' = true → Le h h' → κ v' h') :
    CallW Try.prog 71 [v, nmV t r] h κ := by
  refine callW_of mixed ?_
  rw [rs_71]
  simp (disch := first | omega | (simp only [Wx]; done) | (simp only [Wy]; done) | (simp only [Wv]; omega) | with_unfolding_all rfl) only [Wz, ptrTo, sliceTo, nmV]
  obtain ⟨hA, eA⟩ : ∃ hA : Heap, hA = ⟨h.nx + 1, h.bl.upd h.nx (cellsO [.int .i64 t, .int .i64 r] 27 false), h.lo⟩ := ⟨_, rfl⟩
  have hleA : Le h hA := by subst eA; exact (Le.refl h).new _
  have gA : hA.bl.get h.nx = some (cellsO [.int .i64 t, .int .i64 r] 27 false) := by subst eA; exact T.get_upd_same _ _ _
  have nA : hA.nx = h.nx + 1 := by subst eA; rfl
  have lA : hA.lo = h.lo := by subst eA; rfl
  rw [← eA]
  clear eA
  have hvA := hv.le hleA
  refine ⟨fun n l h1 => Le hA h1 ∧ ∃ i : Nat, slot l 21 = .int .i64 (i : Int) ∧ i ≤ L.length ∧ n = L.length - i ∧ Own enc4 hA 30 h1 (slot l 18) ((L.take i).filter fun p => !named t r p),
    ⟨_, Le.refl _, 0, rfl, Nat.zero_le _, rfl, .inl ⟨rfl, .inl rfl⟩⟩, ?_⟩
  rintro n l h1 ⟨hle1, i, s1, hi, rfl, ho⟩
  have n1 := hle1.nx
  have l1 := hle1.lo
  have g1 := (hle1.get h.nx (by omega)).trans gA
  have hv1 := hvA.le hle1
  by_cases hlt : i < L.length
  · obtain ⟨p, hp⟩ : ∃ p, L[i]? = some p := ⟨_, List.getElem?_eq_getElem hlt⟩
    obtain ⟨b, o, hb, hat, hld⟩ := ld4 hv1 i hp
    simp (disch := first | omega | (simp only [Wx]; done) | (simp only [Wy]; done) | (simp only [Wv]; omega) | with_unfolding_all rfl) only [Wz, ptrTo, sliceTo, rs_71_1, hv1.len, s1]
    refine ⟨fun l7 h2 => Le hA h2 ∧ Own enc4 hA 30 h2 (slot l7 14) ((L.take (i + 1)).filter fun p => !named t r p), ?_, ?_⟩
    · by_cases hm : p.t = t ∧ p.r = r
      · simp (disch := first | omega | (simp only [Wx]; done) | (simp only [Wy]; done) | (simp only [Wv]; omega) | with_unfolding_all rfl) only [Wz, ptrTo, sliceTo, rs_71_0, s1, hat, hld, g1, bin_ne27, dec_t hm]
        exact ⟨hle1, by rw [filter_take_succ hp]; simpa [named, hm] using ho⟩
      · simp (disch := first | omega | (simp only [Wx]; done) | (simp only [Wy]; done) | (simp only [Wv]; omega) | with_unfolding_all rfl) only [Wz, ptrTo, sliceTo, rs_71_0, s1, hat, hld, g1, bin_ne27, dec_f hm, enc4]
        have hle2 := (Le.refl h1).new (cellsO [.int .i64 p.x, .int .i64 p.t, .int .i64 p.r, .int .i64 p.m] 30 false)
        refine append_own (enc := enc4) (a := hA) (L := (L.take i).filter fun p => !named t r p) (M := [p]) enc4_len enc4_one (by omega) (by omega) (ho.le hle2) ⟨_, 1, rfl, fun _ => ⟨h1.nx, 0, rfl, Nat.lt_succ_self _, by show Has ((T.upd _ _ _).get _) 0 _; rw [T.get_upd_same]; exact Has.all⟩⟩ (hle1.trans hle2)
          (by have := List.length_filter_le (fun p => !named t r p) (L.take i); simp at this ⊢; omega) (by show h1.lo ≤ h1.nx + 1; omega) _ ?_
        intro v' h' ho' hl' _ _
        exact ⟨hl', by rw [filter_take_succ hp]; simpa [named, hm] using ho'⟩
    · rintro l7 h2 ⟨hl2, ho2⟩
      exact ⟨_, by omega, hl2, i + 1, rfl, by omega, rfl, ho2⟩
  · obtain rfl : i = L.length := by omega
    simp (disch := first | omega | (simp only [Wx]; done) | (simp only [Wy]; done) | (simp only [Wv]; omega) | with_unfolding_all rfl) only [Wz, ptrTo, sliceTo, rs_71_1, hv1.len, s1]
    rw [List.take_length] at ho
    exact hk _ _ ho.sl ho.same (hleA.trans hle1)

theorem eq54a (h : Heap) (b o : Nat) : eqB Try.prog h 100 54 (.pointer (some ⟨b, o, none⟩)) (.pointer none) = some false := by kernel_rfl
theorem eq54b (h : Heap) : eqB Try.prog h 100 54 (.pointer none) (.pointer none) = some true := by kernel_rfl
theorem bin_eq54 {β : Type} {fl : β} (cn : Bool) (b o : Nat) (h : Heap) (κ : Value → Heap → β) : binB fl Try.prog .eql 54 cn false (.pointer (some ⟨b, o, none⟩)) (.pointer none) h κ = κ (.bool false) h := by simp only [binB, eq54a, fbK_eq]
theorem bin_eq54n {β : Type} {fl : β} (cn : Bool) (h : Heap) (κ : Value → Heap → β) : binB fl Try.prog .eql 54 cn false (.pointer none) (.pointer none) h κ = κ (.bool true) h := by simp only [binB, eq54b, fbK_eq]
theorem bin_ne54 {β : Type} {fl : β} (cn : Bool) (b o : Nat) (h : Heap) (κ : Value → Heap → β) : binB fl Try.prog .neq 54 cn false (.pointer (some ⟨b, o, none⟩)) (.pointer none) h κ = κ (.bool true) h := by simp only [binB, eq54a, fbK_eq, Bool.not_false]
theorem bin_ne54n {β : Type} {fl : β} (cn : Bool) (h : Heap) (κ : Value → Heap → β) : binB fl Try.prog .neq 54 cn false (.pointer none) (.pointer none) h κ = κ (.bool false) h := by simp only [binB, eq54b, fbK_eq, Bool.not_true]
theorem eq30k (h : Heap) (a b c d a' b' c' d' : Int) : eqB Try.prog h 100 30 (.agg ⟨[.int .i64 a, .int .i64 b, .int .i64 c, .int .i64 d]⟩) (.agg ⟨[.int .i64 a', .int .i64 b', .int .i64 c', .int .i64 d']⟩) =
    (match (some (ieqB a a')) with | some true => (match (match (some (ieqB b b')) with | some true => (match some (ieqB c c') with | some true => some true | r => r) | r => r) with | some true => (match some (ieqB d d') with | some true => some true | r => r) | r => r) | r => r) := by kernel_rfl
theorem eq30 (h : Heap) (p q : H4) : eqB Try.prog h 100 30 (.agg ⟨[.int .i64 p.x, .int .i64 p.t, .int .i64 p.r, .int .i64 p.m]⟩) (.agg ⟨[.int .i64 q.x, .int .i64 q.t, .int .i64 q.r, .int .i64 q.m]⟩) = some (decide (p.x = q.x ∧ p.t = q.t ∧ p.r = q.r ∧ p.m = q.m)) := by
  rw [eq30k, ieqB_eq, ieqB_eq, ieqB_eq, ieqB_eq]
  by_cases h1 : p.x = q.x <;> by_cases h2 : p.t = q.t <;> by_cases h3 : p.r = q.r <;> by_cases h4 : p.m = q.m <;> simp [h1, h2, h3, h4]
theorem bin_ne30 {β : Type} {fl : β} (cn : Bool) (p q : H4) (h : Heap) (κ : Value → Heap → β) : binB fl Try.prog .neq 30 cn false (.agg ⟨[.int .i64 p.x, .int .i64 p.t, .int .i64 p.r, .int .i64 p.m]⟩) (.agg ⟨[.int .i64 q.x, .int .i64 q.t, .int .i64 q.r, .int .i64 q.m]⟩) h κ = κ (.bool (!decide (p.x = q.x ∧ p.t = q.t ∧ p.r = q.r ∧ p.m = q.m))) h := by
  simp only [binB, eq30, fbK_eq]
/-- latchstringkit.Same at locks: of one list -/
theorem same_w (L : List H4) (h : Heap) (v u : Value) (κ : Value → Heap → Prop) (hv : Sl enc4 h v L) (hu : Sl enc4 h u L) (hlen : L.length ≤ 1000000) (hk : κ (.bool true) h) : CallW Try.prog 34 [v, u] h κ := by
  refine callW_of mixed ?_
  rw [rs_34]
  simp (disch := first | omega | (simp only [Wx]; done) | (simp only [Wy]; done) | (simp only [Wv]; omega) | with_unfolding_all rfl) only [Wz, ptrTo, sliceTo, hv.len, hu.len]
  refine ⟨fun n l h1 => HE2 h h1 ∧ ∃ i : Nat, slot l 16 = .int .i64 (i : Int) ∧ i ≤ L.length ∧ n = L.length - i, ⟨_, rfl, 0, rfl, Nat.zero_le _, rfl⟩, ?_⟩
  rintro n l h1 ⟨hE, i, s1, hi, rfl⟩
  cases (show h = h1 from hE)
  clear hE
  by_cases hlt : i < L.length
  · obtain ⟨p, hp⟩ : ∃ p, L[i]? = some p := ⟨_, List.getElem?_eq_getElem hlt⟩
    obtain ⟨b, o, hb, hat, hld⟩ := ld4 hv i hp
    obtain ⟨b', o', hb', hat', hld'⟩ := ld4 hu i hp
    simp (disch := first | omega | (simp only [Wx]; done) | (simp only [Wy]; done) | (simp only [Wv]; omega) | with_unfolding_all rfl) only [Wz, ptrTo, sliceTo, hv.len, s1, rs_34_0, hat, hld, hat', hld', enc4, bin_ne30, and_self]
    exact ⟨_, by omega, rfl, i + 1, rfl, by omega, rfl⟩
  · simp (disch := first | omega | (simp only [Wx]; done) | (simp only [Wy]; done) | (simp only [Wv]; omega) | with_unfolding_all rfl) only [Wz, ptrTo, sliceTo, hv.len, s1]
    exact hk
end Go.Proofs

namespace Go.Proofs
open Go.Vai Go.Clashes
/-- a list of locks does not lie in a block of less than four cells -/
theorem sl_ne4 {h : Heap} {v : Value} {us : List Value} {L : List H4} {bl e : Nat} {op : Bool} (hs : Sl enc4 h v L) (hus : us.length < 4) (hg : h.bl.get bl = some (cellsO us e op)) : ∀ b o n c, v = .slice (some ⟨b, o, none⟩) n c → L ≠ [] → b ≠ bl := by
  rintro b o n c rfl hn rfl
  obtain ⟨x, cap, e1, hx⟩ := hs
  obtain ⟨b', o', e2, _, n', c', e', h1, h2, _⟩ := hx hn
  cases e1; cases e2
  rw [hg] at h1
  have hl : (L.flatMap enc4).length = L.length * 4 := flat4 L
  have hpos := List.length_pos_iff.2 hn
  rcases h1 with h1 | ⟨op', h1⟩
  · cases h1
  · simp only [cellsO, Option.some.injEq, AObj.cells.injEq] at h1
    obtain ⟨rfl, _⟩ := h1
    rw [hl] at h2
    omega
/-- a list stays where one small block changes -/
theorem sl_leB4 {h h' : Heap} {v : Value} {us : List Value} {L : List H4} {bl e : Nat} {op : Bool} (hs : Sl enc4 h v L) (hus : us.length < 4) (hg : h.bl.get bl = some (cellsO us e op)) (l : LeB bl h h') : Sl enc4 h' v L := by
  have hne := sl_ne4 hs hus hg
  obtain ⟨x, cap, rfl, hx⟩ := hs
  refine ⟨x, cap, rfl, fun hn => ?_⟩
  obtain ⟨b, o, rfl, e2, e3⟩ := hx hn
  exact ⟨b, o, rfl, Nat.lt_of_lt_of_le e2 l.nx, by rw [l.get b e2 (hne b o _ _ rfl hn)]; exact e3⟩
theorem sl_same {h : Heap} {v : Value} {L : List H4} (hs : Sl enc4 h v L) (hn : L ≠ []) : veq 8 v v = true := by
  obtain ⟨x, cap, rfl, hx⟩ := hs
  obtain ⟨b, o, rfl, _⟩ := hx hn
  exact veq_sli _ _ _ _
theorem putR_ne (L : List H4) (p : H4) : putR L p ≠ [] := by
  unfold putR
  split
  · rename_i i hi
    intro e
    have : L = [] := by simpa using e
    subst this; simp at hi
  · simp
/-- the reference's pool -/
structure RPool (a h : Heap) (bq : Nat) (N most : Int) (L : List H4) : Prop where
  p1 : a.nx ≤ bq
  q1 : bq < h.nx
  lo : h.lo ≤ bq
  g : ∃ vl, h.bl.get bq = some (cellsO [.int .i64 N, vl, .int .i64 most] 60 false) ∧ Sl enc4 h vl L ∧ veq 8 vl vl = true
theorem RPool.le {a h h' : Heap} {bq : Nat} {N most : Int} {L : List H4} (p : RPool a h bq N most L) (hl : Le h h') : RPool a h' bq N most L := by
  obtain ⟨p1, q1, lo, vl, g, sl, ov⟩ := p
  exact ⟨p1, Nat.lt_of_lt_of_le q1 hl.nx, by rw [hl.lo]; exact lo, vl, by rw [hl.get bq q1]; exact g, sl.le hl, ov⟩
theorem RPool.set {a h : Heap} {bq : Nat} {N most : Int} {L L' : List H4} (p : RPool a h bq N most L) {v : Value} (hv : Sl enc4 h v L') (hq : veq 8 v v = true) :
    RPool a ⟨h.nx, h.bl.upd bq (cellsO [.int .i64 N, v, .int .i64 most] 60 false), h.lo⟩ bq N most L' := by
  obtain ⟨p1, q1, lo, vl, g, sl, ov⟩ := p
  have hs := sl_leB4 hv (by simp) g (LeB.set (bl := bq) (Le.refl h) (cellsO [.int .i64 N, v, .int .i64 most] 60 false))
  exact ⟨p1, q1, lo, v, T.get_upd_same _ _ _, hs, hq⟩
theorem RPool.leB {a a' h h' : Heap} {bq bp bl : Nat} {N most txn most' : Int} {L M : List H4} (p : RPool a h bq N most L) (q : PoolIs a' h bp bl txn most' M) (l : LeB bl h h') : RPool a h' bq N most L := by
  obtain ⟨p1, q1, lo, vl, g, sl, ov⟩ := p
  obtain ⟨ul, gl, _⟩ := q.gl
  have hne : bq ≠ bl := fun e => by rw [e, gl] at g; simp [cellsO] at g
  exact ⟨p1, Nat.lt_of_lt_of_le q1 l.nx, by rw [l.lo]; exact lo, vl, by rw [l.get bq q1 hne]; exact g, sl_leB4 sl (by simp) gl l, ov⟩
theorem PoolIs.leR {a a' h h' : Heap} {bq bp bl : Nat} {N most txn most' : Int} {L M : List H4} (q : PoolIs a' h bp bl txn most' M) (p : RPool a h bq N most L) (l : LeB bq h h') : PoolIs a' h' bp bl txn most' M := by
  obtain ⟨_, q1, lo, vl, g, sl, ov⟩ := p
  obtain ⟨u1, u2, w1, w2, ne, ulo, gp, ul, gl, usl, uov⟩ := q
  have n1 : bp ≠ bq := fun e => by rw [e, g] at gp; simp [cellsO] at gp
  have n2 : bl ≠ bq := fun e => by rw [e, g] at gl; simp [cellsO] at gl
  exact ⟨u1, u2, Nat.lt_of_lt_of_le w1 l.nx, Nat.lt_of_lt_of_le w2 l.nx, ne, by rw [l.lo]; exact ulo, by rw [l.get bp w1 n1]; exact gp, ul, by rw [l.get bl w2 n2]; exact gl, sl_leB4 usl (by simp) g l, uov⟩

theorem rnew_w (txn most : Int) (h : Heap) (κ : Value → Heap → Prop) (hlo : h.lo ≤ h.nx) (h1 : txn < 0) (h2 : 0 ≤ most) (h3 : most ≤ 8)
    (hk : ∀ bq h', RPool h h' bq txn most [] → Le h h' → κ (.tuple ⟨[ptrTo bq, .int .i64 0]⟩) h') : CallW Try.prog 28 [.int .i64 txn, .int .i64 most] h κ := by
  refine callW_of mixed ?_
  rw [rs_28]
  simp (disch := first | omega | (simp only [Wx]; done) | (simp only [Wy]; done) | (simp only [Wv]; omega) | with_unfolding_all rfl) only [Wz, ptrTo, sliceTo]
  refine hk h.nx _ ⟨Nat.le_refl _, Nat.lt_succ_self _, hlo, .slice none 0 0, T.get_upd_same _ _ _, Sl.nil _ _ _, veq_sln _ _⟩ ((Le.refl h).new _)
theorem rhas_w (a h : Heap) (bq : Nat) (N most : Int) (L : List H4) (t r : Int) (κ : Value → Heap → Prop) (p : RPool a h bq N most L) (hlen : L.length ≤ 100000) (hlo : h.lo ≤ h.nx)
    (hk : ∀ h', Le h h' → κ (.bool (decide (modeOf L t r ≠ 0))) h') : CallW Try.prog 33 [ptrTo bq, nmV t r] h κ := by
  refine callW_of mixed ?_
  rw [rs_33]
  have q1 := p.q1
  obtain ⟨vl, g, sl, ov⟩ := p.g
  simp (disch := first | omega | (simp only [Wx]; done) | (simp only [Wy]; done) | (simp only [Wv]; omega) | with_unfolding_all rfl) only [Wz, ptrTo, sliceTo, nmV, g]
  have hle := (Le.refl h).new (cellsO [.int .i64 t, .int .i64 r] 27 false)
  refine rmode_w L t r _ vl _ (sl.le hle) (by omega) (by show h.lo ≤ h.nx + 1; omega) ?_
  intro h' hl'
  have := hk h' (hle.trans hl')
  by_cases hm : modeOf L t r = 0
  · simp (disch := first | omega | (simp only [Wx]; done) | (simp only [Wy]; done) | (simp only [Wv]; omega) | with_unfolding_all rfl) only [Wz, ptrTo, sliceTo, dec_t hm]
    simpa [hm] using this
  · simp (disch := first | omega | (simp only [Wx]; done) | (simp only [Wy]; done) | (simp only [Wv]; omega) | with_unfolding_all rfl) only [Wz, ptrTo, sliceTo, dec_f hm]
    simpa [hm] using this
theorem rroom_w (a h : Heap) (bq : Nat) (N most : Int) (L : List H4) (κ : Value → Heap → Prop) (p : RPool a h bq N most L) (hlen : L.length ≤ 100000) (hm : 0 ≤ most ∧ most ≤ 8)
    (hk : κ (.int .i64 (most - L.length)) h) : CallW Try.prog 36 [ptrTo bq] h κ := by
  refine callW_of mixed ?_
  rw [rs_36]
  obtain ⟨vl, g, sl, ov⟩ := p.g
  obtain ⟨x, cap, rfl, hx⟩ := sl
  simp (disch := first | omega | (simp only [Wx]; done) | (simp only [Wy]; done) | (simp only [Wv]; omega) | with_unfolding_all rfl) only [Wz, ptrTo, sliceTo, g]
  exact hk
theorem rlist_w (a h : Heap) (bq : Nat) (N most : Int) (L : List H4) (κ : Value → Heap → Prop) (p : RPool a h bq N most L) (hlen : L.length ≤ 100000) (hlo : h.lo ≤ h.nx)
    (hk : ∀ v' h', Sl enc4 h' v' L → Le h h' → κ v' h') : CallW Try.prog 35 [ptrTo bq] h κ := by
  refine callW_of mixed ?_
  rw [rs_35]
  have q1 := p.q1
  obtain ⟨vl, g, sl, ov⟩ := p.g
  simp (disch := first | omega | (simp only [Wx]; done) | (simp only [Wy]; done) | (simp only [Wv]; omega) | with_unfolding_all rfl) only [Wz, ptrTo, sliceTo, repeatL_0, g]
  have hle := (Le.refl h).new (cellsO [] 30 false)
  refine append_own (enc := enc4) (a := h) (L := []) (M := L) enc4_len enc4_one (by omega) (by omega) (.inl ⟨rfl, .inr ⟨_, _, rfl⟩⟩) (sl.le hle) hle (by simp; omega) (by show h.lo ≤ h.nx + 1; omega) _ ?_
  intro v' h' ho hl _ _
  exact hk v' h' (by simpa using ho.sl) hl
def rputP (most : Int) (L : List H4) (p : H4) : Int × List H4 :=
  if elig p.t p.r p.m = false then (2, L) else if modeOf L p.t p.r ≠ 0 then (4, L) else if most - L.length < 1 then (8, L) else (0, putR L p)
theorem rpoolPut_w (a h : Heap) (bq : Nat) (txn most : Int) (L : List H4) (t r m : Int) (κ : Value → Heap → Prop) (p : RPool a h bq txn most L) (hlen : L.length ≤ 100000) (hlo : h.lo ≤ h.nx) (hm : 0 ≤ most ∧ most ≤ 8)
    (hk : ∀ h', RPool a h' bq txn most (rputP most L ⟨txn, t, r, m⟩).2 → LeB bq h h' → κ (.int .i64 (rputP most L ⟨txn, t, r, m⟩).1) h') : CallW Try.prog 29 [ptrTo bq, nmV t r, .int .i64 m] h κ := by
  refine callW_of mixed ?_
  rw [rs_29]
  simp (disch := first | omega | (simp only [Wx]; done) | (simp only [Wy]; done) | (simp only [Wv]; omega) | with_unfolding_all rfl) only [Wz, ptrTo, sliceTo, nmV]
  refine relig_w t r m ?_
  have hle1 := (Le.refl h).new (cellsO [.int .i64 t, .int .i64 r] 27 false)
  obtain ⟨hA, eA⟩ : ∃ hA : Heap, hA = ⟨h.nx + 1, h.bl.upd h.nx (cellsO [.int .i64 t, .int .i64 r] 27 false), h.lo⟩ := ⟨_, rfl⟩
  have gA : hA.bl.get h.nx = some (cellsO [.int .i64 t, .int .i64 r] 27 false) := by subst eA; exact T.get_upd_same _ _ _
  have nA : hA.nx = h.nx + 1 := by subst eA; rfl
  have lA : hA.lo = h.lo := by subst eA; rfl
  rw [← eA] at hle1 ⊢
  clear eA
  cases he : elig t r m with
  | false =>
    simp (disch := first | omega | (simp only [Wx]; done) | (simp only [Wy]; done) | (simp only [Wv]; omega) | with_unfolding_all rfl) only [Wz, ptrTo, sliceTo]
    have := hk hA (by simpa [rputP, he] using p.le hle1) (LeB.of_le hle1)
    simpa [rputP, he] using this
  | true =>
    simp (disch := first | omega | (simp only [Wx]; done) | (simp only [Wy]; done) | (simp only [Wv]; omega) | with_unfolding_all rfl) only [Wz, ptrTo, sliceTo, rs_29_1, gA]
    refine rhas_w a hA bq txn most L t r _ (p.le hle1) hlen (by omega) ?_
    intro h2 hle2
    have n2 := hle2.nx
    have l2 := hle2.lo
    have g2 := (hle2.get h.nx (by omega)).trans gA
    have p2 := p.le (hle1.trans hle2)
    by_cases hmo : modeOf L t r = 0
    · simp (disch := first | omega | (simp only [Wx]; done) | (simp only [Wy]; done) | (simp only [Wv]; omega) | with_unfolding_all rfl) only [Wz, ptrTo, sliceTo, dec_f (not_not_intro hmo)]
      refine rroom_w a h2 bq txn most L _ p2 hlen hm ?_
      by_cases hr : most - L.length < 1
      · simp (disch := first | omega | (simp only [Wx]; done) | (simp only [Wy]; done) | (simp only [Wv]; omega) | with_unfolding_all rfl) only [Wz, ptrTo, sliceTo, dec_t hr]
        have := hk h2 (by simpa [rputP, he, hmo, hr] using p2) (LeB.of_le (hle1.trans hle2))
        simpa [rputP, he, hmo, hr] using this
      · simp (disch := first | omega | (simp only [Wx]; done) | (simp only [Wy]; done) | (simp only [Wv]; omega) | with_unfolding_all rfl) only [Wz, ptrTo, sliceTo, dec_f hr]
        have q2 := p2.q1
        obtain ⟨vl, gl, sl, ov⟩ := p2.g
        simp (disch := first | omega | (simp only [Wx]; done) | (simp only [Wy]; done) | (simp only [Wv]; omega) | with_unfolding_all rfl) only [Wz, ptrTo, sliceTo, rs_29_0, gl, g2]
        refine rput_w L ⟨txn, t, r, m⟩ h2 vl _ sl hlen (by omega) ?_
        intro v' h3 hs3 hle3
        have p3 := p2.le hle3
        have lo3 := p3.lo
        obtain ⟨vl3, gl3, sl3, ov3⟩ := p3.g
        have hs4 := hs3
        obtain ⟨x, cap, rfl, _⟩ := hs4
        simp (disch := first | omega | (simp only [Wx]; done) | (simp only [Wy]; done) | (simp only [Wv]; omega) | with_unfolding_all rfl) only [Wz, ptrTo, sliceTo, gl3]
        have p4 := p3.set hs3 (sl_same hs3 (putR_ne _ _))
        have := hk _ (by simpa [rputP, he, hmo, hr] using p4) (LeB.set (hle1.trans (hle2.trans hle3)) _)
        simpa [rputP, he, hmo, hr] using this
    · simp (disch := first | omega | (simp only [Wx]; done) | (simp only [Wy]; done) | (simp only [Wv]; omega) | with_unfolding_all rfl) only [Wz, ptrTo, sliceTo, dec_t (show ¬ modeOf L t r = 0 from hmo)]
      have := hk h2 (by simpa [rputP, he, hmo] using p2) (LeB.of_le (hle1.trans hle2))
      simpa [rputP, he, hmo] using this
theorem rpoolTake_w (a h : Heap) (bq : Nat) (txn most : Int) (L : List H4) (t r : Int) (κ : Value → Heap → Prop) (p : RPool a h bq txn most L) (hlen : L.length ≤ 100000) (hlo : h.lo ≤ h.nx)
    (hk : ∀ h', RPool a h' bq txn most (dropH L t r) → LeB bq h h' → κ (.tuple ⟨[.int .i64 (modeOf L t r), .bool (decide (modeOf L t r ≠ 0))]⟩) h') : CallW Try.prog 30 [ptrTo bq, nmV t r] h κ := by
  refine callW_of mixed ?_
  rw [rs_30]
  have hle1 := (Le.refl h).new (cellsO [.int .i64 t, .int .i64 r] 27 false)
  have q1 := p.q1
  obtain ⟨vl, g, sl, ov⟩ := p.g
  simp (disch := first | omega | (simp only [Wx]; done) | (simp only [Wy]; done) | (simp only [Wv]; omega) | with_unfolding_all rfl) only [Wz, ptrTo, sliceTo, nmV, g]
  obtain ⟨hA, eA⟩ : ∃ hA : Heap, hA = ⟨h.nx + 1, h.bl.upd h.nx (cellsO [.int .i64 t, .int .i64 r] 27 false), h.lo⟩ := ⟨_, rfl⟩
  have gA : hA.bl.get h.nx = some (cellsO [.int .i64 t, .int .i64 r] 27 false) := by subst eA; exact T.get_upd_same _ _ _
  have nA : hA.nx = h.nx + 1 := by subst eA; rfl
  have lA : hA.lo = h.lo := by subst eA; rfl
  rw [← eA] at hle1 ⊢
  clear eA
  refine rmode_w L t r hA vl _ (sl.le hle1) (by omega) (by omega) ?_
  intro h2 hle2
  have n2 := hle2.nx
  have l2 := hle2.lo
  have g2 := (hle2.get h.nx (by omega)).trans gA
  have p2 := p.le (hle1.trans hle2)
  have q2 := p2.q1
  obtain ⟨vl2, gl2, sl2, ov2⟩ := p2.g
  simp (disch := first | omega | (simp only [Wx]; done) | (simp only [Wy]; done) | (simp only [Wv]; omega) | with_unfolding_all rfl) only [Wz, ptrTo, sliceTo, gl2, g2]
  refine rdrop_w L t r h2 vl2 _ sl2 hlen (by omega) ?_
  intro v' h3 hs3 hq3 hle3
  have p3 := p2.le hle3
  have lo3 := p3.lo
  obtain ⟨vl3, gl3, sl3, ov3⟩ := p3.g
  have hs4 := hs3
  obtain ⟨x, cap, rfl, _⟩ := hs4
  have p4 := p3.set hs3 hq3
  have := hk _ p4 (LeB.set (hle1.trans (hle2.trans hle3)) _)
  by_cases hm : modeOf L t r = 0
  · simp (disch := first | omega | (simp only [Wx]; done) | (simp only [Wy]; done) | (simp only [Wv]; omega) | with_unfolding_all rfl) only [Wz, ptrTo, sliceTo, gl3, dec_t hm]
    simpa [hm] using this
  · simp (disch := first | omega | (simp only [Wx]; done) | (simp only [Wy]; done) | (simp only [Wv]; omega) | with_unfolding_all rfl) only [Wz, ptrTo, sliceTo, gl3, dec_f hm]
    simpa [hm] using this
end Go.Proofs

namespace Go.Proofs
open Go.Vai Go.Clashes
theorem putR_eq {L : List H4} {p : H4} (h : ∀ x ∈ L, ¬ (x.t = p.t ∧ x.r = p.r)) : putR L p = putH L p := by
  have hn : L.findIdx? (named p.t p.r) = none := by
    rw [List.findIdx?_eq_none_iff]
    intro x hx
    cases hn : named p.t p.r x with
    | false => rfl
    | true => exact absurd ((named_iff _ _ _).1 hn) (h x hx)
  have hf : L.findIdx? (fun x => !rcN p x) = L.findIdx? (above p) := by
    clear hn
    induction L with
    | nil => rfl
    | cons a L ih =>
      have h1 : (!rcN p a) = above p a := by
        have h2 := h a (.head _)
        cases ha : above p a with
        | true =>
          have := (above_iff _ _).1 ha
          unfold ltN at this
          simp only [rcN, rCmp, Bool.not_eq_true']
          split <;> (try split) <;> simp <;> omega
        | false =>
          have : ¬ ltN p a := fun e => by rw [(above_iff _ _).2 e] at ha; cases ha
          unfold ltN at this
          simp only [rcN, rCmp, Bool.not_eq_false']
          split <;> (try split) <;> simp <;> omega
      rw [List.findIdx?_cons, List.findIdx?_cons, h1, ih fun x hx => h x (.tail _ hx)]
  unfold putR putH atR
  rw [hn, hf]
  cases L.findIdx? (above p) with
  | some i => rfl
  | none => simp
theorem newFail_w (txn most : Int) (h : Heap) (κ : Value → Heap → Prop) (hb : ¬ (txn < 0 ∧ 0 ≤ most ∧ most ≤ 8)) (hk : κ (.tuple ⟨[.pointer none, .int .i64 2]⟩) h) : CallW Try.prog 19 [.int .i64 txn, .int .i64 most] h κ := by
  refine callW_of mixed ?_
  rw [rs_19]
  by_cases h1 : txn < 0
  · by_cases h2 : most < 0
    · simp (disch := first | omega | (simp only [Wx]; done) | (simp only [Wy]; done) | (simp only [Wv]; omega) | with_unfolding_all rfl) only [Wz, ptrTo, sliceTo]; exact hk
    · simp (disch := first | omega | (simp only [Wx]; done) | (simp only [Wy]; done) | (simp only [Wv]; omega) | with_unfolding_all rfl) only [Wz, ptrTo, sliceTo]; exact hk
  · simp (disch := first | omega | (simp only [Wx]; done) | (simp only [Wy]; done) | (simp only [Wv]; omega) | with_unfolding_all rfl) only [Wz, ptrTo, sliceTo]; exact hk
theorem rnewFail_w (txn most : Int) (h : Heap) (κ : Value → Heap → Prop) (hb : ¬ (txn < 0 ∧ 0 ≤ most ∧ most ≤ 8)) (hk : κ (.tuple ⟨[.pointer none, .int .i64 2]⟩) h) : CallW Try.prog 28 [.int .i64 txn, .int .i64 most] h κ := by
  refine callW_of mixed ?_
  rw [rs_28]
  by_cases h1 : txn < 0
  · by_cases h2 : most < 0
    · simp (disch := first | omega | (simp only [Wx]; done) | (simp only [Wy]; done) | (simp only [Wv]; omega) | with_unfolding_all rfl) only [Wz, ptrTo, sliceTo]; exact hk
    · simp (disch := first | omega | (simp only [Wx]; done) | (simp only [Wy]; done) | (simp only [Wv]; omega) | with_unfolding_all rfl) only [Wz, ptrTo, sliceTo]; exact hk
  · simp (disch := first | omega | (simp only [Wx]; done) | (simp only [Wy]; done) | (simp only [Wv]; omega) | with_unfolding_all rfl) only [Wz, ptrTo, sliceTo]; exact hk

set_option maxHeartbeats 4000000 in
theorem passScript_law (txn most : Int) (L : List H4) (h : Heap) (v : Value) (hv : Sl enc4 h v L) (hlo : h.lo ≤ h.nx) : CallW Try.prog 6 [.int .i64 txn, .int .i64 most, v] h IsTrue := by
  refine callW_of mixed ?_
  rw [rs_6]
  refine closedW mixed lives18 ?_
  by_cases hn : L.length > 60
  · simp (disch := first | omega | (simp only [Wx]; done) | (simp only [Wy]; done) | (simp only [Wv]; omega) | with_unfolding_all rfl) only [Wz, ptrTo, sliceTo, hv.len]
    rfl
  simp (disch := first | omega | (simp only [Wx]; done) | (simp only [Wy]; done) | (simp only [Wv]; omega) | with_unfolding_all rfl) only [Wz, ptrTo, sliceTo, hv.len, rs_6_6]
  by_cases hmo : txn < 0 ∧ 0 ≤ most ∧ most ≤ 8
  · obtain ⟨g1, g2, g3⟩ := hmo
    refine new_w txn most h _ hlo g1 g2 g3 ?_
    intro bp bl h1 hp1 hle1
    have n1 := hle1.nx
    have l1 := hle1.lo
    simp (disch := first | omega | (simp only [Wx]; done) | (simp only [Wy]; done) | (simp only [Wv]; omega) | with_unfolding_all rfl) only [Wz, ptrTo, sliceTo]
    refine rnew_w txn most h1 _ (by omega) g1 g2 g3 ?_
    intro bq h2 hq2 hle2
    have hp2 := hp1.le hle2
    have hle02 := hle1.trans hle2
    simp (disch := first | omega | (simp only [Wx]; done) | (simp only [Wy]; done) | (simp only [Wv]; omega) | with_unfolding_all rfl) only [Wz, ptrTo, sliceTo, bin_eq35, bin_eq54, bin_neqb]
    refine ⟨fun n l h3 => ∃ (k : Nat) (P : List H4), slot l 120 = .int .i64 (k : Int) ∧ k ≤ L.length ∧ n = L.length - k ∧ Le h h3 ∧ PoolIs h h3 bp bl txn most P ∧ RPool h1 h3 bq txn most P ∧ Good txn P ∧ (P.length : Int) ≤ most,
      ⟨_, 0, [], rfl, Nat.zero_le _, rfl, hle02, hp2, hq2, ⟨List.Pairwise.nil, fun p hp => (by cases hp), fun p hp => (by cases hp)⟩, (by simpa using g2)⟩, ?_⟩
    rintro n l h3 ⟨k, P, hs, hkl, rfl, hle3, hp3, hq3, hg3, hlen3⟩
    have n3 := hle3.nx
    have l3 := hle3.lo
    have hPl : P.length ≤ 100000 := by omega
    by_cases hlt : k < L.length
    · obtain ⟨x, hx⟩ : ∃ x, L[k]? = some x := ⟨_, List.getElem?_eq_getElem hlt⟩
      obtain ⟨b, o, hb, hat, hld⟩ := ld4 hv k hx
      simp (disch := first | omega | (simp only [Wx]; done) | (simp only [Wy]; done) | (simp only [Wv]; omega) | with_unfolding_all rfl) only [Wz, ptrTo, sliceTo, hv.len, hs, rs_6_5, bin_ne54]
      refine ⟨fun l15 h4 => ∃ (P' : List H4), Le h h4 ∧ PoolIs h h4 bp bl txn most P' ∧ RPool h1 h4 bq txn most P' ∧ Good txn P' ∧ (P'.length : Int) ≤ most, ?_, ?_⟩
      · simp (disch := first | omega | (simp only [Wx]; done) | (simp only [Wy]; done) | (simp only [Wv]; omega) | with_unfolding_all rfl) only [Wz, ptrTo, sliceTo, hs, rs_6_4, hat, hle3.get, hld, enc4]
        obtain ⟨hA, eA⟩ : ∃ hA : Heap, hA = ⟨h3.nx + 1, h3.bl.upd h3.nx (cellsO [.int .i64 x.x, .int .i64 x.t, .int .i64 x.r, .int .i64 x.m] 41 false), h3.lo⟩ := ⟨_, rfl⟩
        have hleA : Le h3 hA := by subst eA; exact (Le.refl h3).new _
        have gA : hA.bl.get h3.nx = some (cellsO [.int .i64 x.x, .int .i64 x.t, .int .i64 x.r, .int .i64 x.m] 41 false) := by subst eA; exact T.get_upd_same _ _ _
        have nA : hA.nx = h3.nx + 1 := by subst eA; rfl
        have lA : hA.lo = h3.lo := by subst eA; rfl
        rw [← eA]
        clear eA
        have hpA := hp3.le hleA
        have hqA := hq3.le hleA
        have hallA := hle3.trans hleA
        have hp3q := hp3.q2
        have hq3q := hq3.q1
        have hbp := hp3.p1
        have hbl := hp3.p2
        have hbq := hq3.p1
        refine ⟨fun l23 h4 => slot l23 46 = .bool true ∧ h4.bl.get h3.nx = some (cellsO [.int .i64 x.x, .int .i64 x.t, .int .i64 x.r, .int .i64 x.m] 41 false) ∧ h3.nx < h4.nx ∧ ∃ (P' : List H4), Le h h4 ∧ PoolIs h h4 bp bl txn most P' ∧ RPool h1 h4 bq txn most P' ∧ Good txn P' ∧ (P'.length : Int) ≤ most, ?_, ?_⟩
        · simp (disch := first | omega | (simp only [Wx]; done) | (simp only [Wy]; done) | (simp only [Wv]; omega) | with_unfolding_all rfl) only [Wz, ptrTo, sliceTo, rs_6_2, gA]
          refine pick_w _ _ (by omega) ?_
          by_cases hk0 : pickM x.x 3 = 0
          · simp (disch := first | omega | (simp only [Wx]; done) | (simp only [Wy]; done) | (simp only [Wv]; omega) | with_unfolding_all rfl) only [Wz, ptrTo, sliceTo, dec_t hk0, rs_6_1, gA]
            refine poolPut_w h hA bp bl txn most P x.t x.r x.m _ hpA hPl (by omega) ⟨g2, g3⟩ ?_
            intro h4 hp4 hb4
            have n4 := hb4.nx
            have l4 := hb4.lo
            have g4 := (hb4.get h3.nx (by omega) (by omega)).trans gA
            have hq4 := hqA.leB hpA hb4
            have hall4 := hb4.le hallA hbl
            simp (disch := first | omega | (simp only [Wx]; done) | (simp only [Wy]; done) | (simp only [Wv]; omega) | with_unfolding_all rfl) only [Wz, ptrTo, sliceTo, g4]
            refine rpoolPut_w h1 h4 bq txn most P x.t x.r x.m _ hq4 hPl (by omega) ⟨g2, g3⟩ ?_
            intro h5 hq5 hb5
            have g5 := (hb5.get h3.nx (by omega) (by omega)).trans g4
            have hp5 := hp4.leR hq4 hb5
            have hall5 := hb5.le hall4 (by omega)
            have key : ∃ e P', putP most P ⟨txn, x.t, x.r, x.m⟩ = (e, P') ∧ rputP most P ⟨txn, x.t, x.r, x.m⟩ = (e, P') ∧ Good txn P' ∧ (P'.length : Int) ≤ most := by
              by_cases he : elig x.t x.r x.m = true
              · by_cases hmo : modeOf P x.t x.r = 0
                · by_cases hr0 : most - P.length = 0
                  · exact ⟨8, P, by simp [putP, he, hmo, hr0], by simp [rputP, he, hmo, hr0], hg3, hlen3⟩
                  · obtain ⟨q1, q2, q3⟩ := hg3.put (txn := txn) he hmo
                    have hr1 : ¬ most - P.length < 1 := by omega
                    exact ⟨0, putH P ⟨txn, x.t, x.r, x.m⟩, by simp [putP, he, hmo, hr0], by simp [rputP, he, hmo, hr1]; exact putR_eq (hg3.absent hmo), q1, by rw [q2]; omega⟩
                · exact ⟨4, P, by simp [putP, he, hmo], by simp [rputP, he, hmo], hg3, hlen3⟩
              · have he : elig x.t x.r x.m = false := by simpa using he
                exact ⟨2, P, by simp [putP, he], by simp [rputP, he], hg3, hlen3⟩
            obtain ⟨e, P', k1, k2, k3, k4⟩ := key
            rw [k1] at hp5 ⊢
            rw [k2] at hq5 ⊢
            have n5 := hb5.nx
            simp (disch := first | omega | (simp only [Wx]; done) | (simp only [Wy]; done) | (simp only [Wv]; omega) | with_unfolding_all rfl) only [Wz, ptrTo, sliceTo]
            exact ⟨trivial, g5, by omega, P', hall5, hp5, hq5, k3, k4⟩
          · by_cases hk1 : pickM x.x 3 = 1
            · simp (disch := first | omega | (simp only [Wx]; done) | (simp only [Wy]; done) | (simp only [Wv]; omega) | with_unfolding_all rfl) only [Wz, ptrTo, sliceTo, dec_f hk0, dec_t hk1, rs_6_0, gA]
              refine poolTake_w h hA bp bl txn most P x.t x.r _ hpA hPl (by omega) ?_
              intro h4 hp4 hb4
              have n4 := hb4.nx
              have l4 := hb4.lo
              have g4 := (hb4.get h3.nx (by omega) (by omega)).trans gA
              have hq4 := hqA.leB hpA hb4
              have hall4 := hb4.le hallA hbl
              simp (disch := first | omega | (simp only [Wx]; done) | (simp only [Wy]; done) | (simp only [Wv]; omega) | with_unfolding_all rfl) only [Wz, ptrTo, sliceTo, g4]
              refine rpoolTake_w h1 h4 bq txn most P x.t x.r _ hq4 hPl (by omega) ?_
              intro h5 hq5 hb5
              have g5 := (hb5.get h3.nx (by omega) (by omega)).trans g4
              have hp5 := hp4.leR hq4 hb5
              have hall5 := hb5.le hall4 (by omega)
              have n5 := hb5.nx
              obtain ⟨q1, q2, q3⟩ := hg3.drop x.t x.r
              by_cases hmo : modeOf P x.t x.r = 0
              · have hd := drop_absent (hg3.absent hmo)
                rw [hd] at hq5
                have htk : takeP P x.t x.r = ((0, false), P) := by simp [takeP, hmo]
                rw [htk] at hp5 ⊢
                simp (disch := first | omega | (simp only [Wx]; done) | (simp only [Wy]; done) | (simp only [Wv]; omega) | with_unfolding_all rfl) only [Wz, ptrTo, sliceTo, bin_eqlb, hmo, dec_f (show ¬ ((0 : Int) ≠ 0) by simp)]
                exact ⟨trivial, g5, by omega, P, hall5, hp5, hq5, hg3, hlen3⟩
              · have htk : takeP P x.t x.r = ((modeOf P x.t x.r, true), dropH P x.t x.r) := by simp [takeP, hmo]
                rw [htk] at hp5 ⊢
                simp (disch := first | omega | (simp only [Wx]; done) | (simp only [Wy]; done) | (simp only [Wv]; omega) | with_unfolding_all rfl) only [Wz, ptrTo, sliceTo, bin_eqlb, dec_t hmo]
                exact ⟨trivial, g5, by omega, dropH P x.t x.r, hall5, hp5, hq5, q1, by omega⟩
            · simp (disch := first | omega | (simp only [Wx]; done) | (simp only [Wy]; done) | (simp only [Wv]; omega) | with_unfolding_all rfl) only [Wz, ptrTo, sliceTo, dec_f hk0, dec_f hk1]
              exact ⟨trivial, gA, by omega, P, hallA, hpA, hqA, hg3, hlen3⟩
        · rintro l23 h4 ⟨s4, g4, n4, P', hall4, hp4, hq4, hg4, hlen4⟩
          have l4 := hall4.lo
          have m4 := hall4.nx
          have hPl' : P'.length ≤ 100000 := by omega
          simp (disch := first | omega | (simp only [Wx]; done) | (simp only [Wy]; done) | (simp only [Wv]; omega) | with_unfolding_all rfl) only [Wz, ptrTo, sliceTo, rs_6_3, s4, g4]
          refine eligible_w x.t x.r x.m ?_
          simp (disch := first | omega | (simp only [Wx]; done) | (simp only [Wy]; done) | (simp only [Wv]; omega) | with_unfolding_all rfl) only [Wz, ptrTo, sliceTo, g4]
          refine relig_w x.t x.r x.m ?_
          simp (disch := first | omega | (simp only [Wx]; done) | (simp only [Wy]; done) | (simp only [Wv]; omega) | with_unfolding_all rfl) only [Wz, ptrTo, sliceTo, bin_neqb, g4]
          refine mode2_w h h4 bp bl txn most P' x.t x.r _ hp4 hPl' (by omega) ?_
          intro h5 hle5
          have n5 := hle5.nx
          have l5 := hle5.lo
          have g5 := (hle5.get h3.nx (by omega)).trans g4
          simp (disch := first | omega | (simp only [Wx]; done) | (simp only [Wy]; done) | (simp only [Wv]; omega) | with_unfolding_all rfl) only [Wz, ptrTo, sliceTo, g5]
          refine rhas_w h1 h5 bq txn most P' x.t x.r _ (hq4.le hle5) hPl' (by omega) ?_
          intro h6 hle6
          have n6 := hle6.nx
          have l6 := hle6.lo
          simp (disch := first | omega | (simp only [Wx]; done) | (simp only [Wy]; done) | (simp only [Wv]; omega) | with_unfolding_all rfl) only [Wz, ptrTo, sliceTo, bin_neqb]
          refine list_w h h6 bp bl txn most P' _ ((hp4.le hle5).le hle6) hPl' (by omega) ?_
          intro u h7 hu hle7
          have n7 := hle7.nx
          have l7 := hle7.lo
          refine rlist_w h1 h7 bq txn most P' _ (((hq4.le hle5).le hle6).le hle7) hPl' (by omega) ?_
          intro w h8 hw hle8
          have n8 := hle8.nx
          have l8 := hle8.lo
          refine same_w P' h8 u w _ (hu.le hle8) hw (by omega) ?_
          simp (disch := first | omega | (simp only [Wx]; done) | (simp only [Wy]; done) | (simp only [Wv]; omega) | with_unfolding_all rfl) only [Wz, ptrTo, sliceTo]
          have hp8 := (((hp4.le hle5).le hle6).le hle7).le hle8
          have hq8 := (((hq4.le hle5).le hle6).le hle7).le hle8
          have hall8 := ((((hall4.trans hle5).trans hle6).trans hle7).trans hle8)
          refine room_w h h8 bp bl txn most P' _ hp8 hPl' ⟨g2, g3⟩ ?_
          refine rroom_w h1 h8 bq txn most P' _ hq8 hPl' ⟨g2, g3⟩ ?_
          obtain ⟨vl, gq, sq, oq⟩ := hq8.g
          have q8 := hq8.q1
          simp (disch := first | omega | (simp only [Wx]; done) | (simp only [Wy]; done) | (simp only [Wv]; omega) | with_unfolding_all rfl) only [Wz, ptrTo, sliceTo, gq, sq.len]
          refine len_w h h8 bp bl txn most P' _ hp8 hPl' (by omega) ?_
          intro h9 hle9
          have gq9 := (hle9.get bq (by omega)).trans gq
          simp (disch := first | omega | (simp only [Wx]; done) | (simp only [Wy]; done) | (simp only [Wv]; omega) | with_unfolding_all rfl) only [Wz, ptrTo, sliceTo, gq9, sq.len, oq]
          refine txn_w h h9 bp bl txn most P' _ (hp8.le hle9) ?_
          simp (disch := first | omega | (simp only [Wx]; done) | (simp only [Wy]; done) | (simp only [Wv]; omega) | with_unfolding_all rfl) only [Wz, ptrTo, sliceTo]
          exact ⟨P', hall8.trans hle9, hp8.le hle9, hq8.le hle9, hg4, hlen4⟩
      · rintro l32 h4 ⟨P', a1, a2, a3, a4, a5⟩
        exact ⟨_, by omega, k + 1, P', rfl, by omega, rfl, a1, a2, a3, a4, a5⟩
    · simp (disch := first | omega | (simp only [Wx]; done) | (simp only [Wy]; done) | (simp only [Wv]; omega) | with_unfolding_all rfl) only [Wz, ptrTo, sliceTo, hv.len, hs, rs_6_5]
      rfl
  · refine newFail_w txn most h _ hmo ?_
    simp (disch := first | omega | (simp only [Wx]; done) | (simp only [Wy]; done) | (simp only [Wv]; omega) | with_unfolding_all rfl) only [Wz, ptrTo, sliceTo]
    refine rnewFail_w txn most h _ hmo ?_
    simp (disch := first | omega | (simp only [Wx]; done) | (simp only [Wy]; done) | (simp only [Wv]; omega) | with_unfolding_all rfl) only [Wz, ptrTo, sliceTo, bin_eq35n, bin_eq54n, bin_neqb]
    refine ⟨fun n l h3 => slot l 120 = .int .i64 0, ⟨0, rfl⟩, ?_⟩
    rintro n l h3 hs
    by_cases hlt : 0 < L.length
    · simp (disch := first | omega | (simp only [Wx]; done) | (simp only [Wy]; done) | (simp only [Wv]; omega) | with_unfolding_all rfl) only [Wz, ptrTo, sliceTo, hv.len, hs, rs_6_5, bin_ne54n]
      rfl
    · simp (disch := first | omega | (simp only [Wx]; done) | (simp only [Wy]; done) | (simp only [Wv]; omega) | with_unfolding_all rfl) only [Wz, ptrTo, sliceTo, hv.len, hs, rs_6_5]
      rfl
end Go.Proofs
