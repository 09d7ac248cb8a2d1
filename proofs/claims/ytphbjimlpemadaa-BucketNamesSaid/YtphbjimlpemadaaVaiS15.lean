/-
  PROVED HERE: a part of an interpreter for the model's code, and that it is sound.
  The interpreter is sound, part 15: regions that draw their order.
-/
import Derived.Test.YtphbjimlpemadaaVaiS14
set_option linter.unusedVariables false
set_option linter.unusedSimpArgs false
namespace Go.Vai
open Go
variable {β : Type} {fl : β} {good : β → Prop} {pr : Prims β} {P : Program} {φ : Emb} {h h' : Heap} {w : World} {t : TypeId}

theorem itemsOf_mem : ∀ (os : List Oper) (n k : Nat) (q : Oper), os[k]? = some q → (n + k, q) ∈ itemsOf os n := by
  intro os
  induction os with
  | nil => intro n k q h; simp at h
  | cons o os ih =>
    intro n k q h
    cases k with
    | zero => simp at h; subst h; exact List.mem_cons_self
    | succ k =>
      simp at h
      have := ih (n + 1) k q h
      rw [show n + (k + 1) = n + 1 + k by omega]
      exact List.mem_cons_of_mem _ this

theorem bit_setBit (D i k : Nat) : bit (setBit D i) k = (bit D k || decide (i = k)) := by
  show Nat.testBit (D ||| 2 ^ i) k = _
  rw [Nat.testBit_or, Nat.testBit_two_pow]
  rfl
theorem bit_or (D M k : Nat) : bit (Nat.lor D M) k = (bit D k || bit M k) := Nat.testBit_or ..
theorem bit_zero (k : Nat) : bit 0 k = false := Nat.zero_testBit k

theorem clsOf_rd {op : Op} {x : OXI} (h : clsOf P op = .rd x) : compR none P op = some x := by
  unfold clsOf at h
  split at h <;> try contradiction
  split at h
  · rename_i e; cases h; exact e
  · split at h <;> contradiction
theorem clsOf_al {op : Op} {x : OXA} (h : clsOf P op = .al x) : compA none P op = some x := by
  unfold clsOf at h
  split at h <;> try contradiction
  split at h <;> try contradiction
  split at h <;> try contradiction
  rename_i e; cases h; exact e

structure Stat (P : Program) (ops : Array Oper) (i : Nat) (o : Oper) : Prop where
  k1 : ∀ j q, ops[j]? = some q → isWr P q = false → ∀ t ∈ looksOf ops.toList o, q.dst = some t → j ∈ predsOf o
  k2 : isWr P o = false → ∀ j q, ops[j]? = some q → j ≠ i → isWr P q = false → ∀ d, o.dst = some d → q.dst ≠ some d

theorem mem0 {ops : Array Oper} {j : Nat} {q : Oper} (h : ops[j]? = some q) : (j, q) ∈ itemsOf ops.toList 0 := by
  have := itemsOf_mem ops.toList 0 j q (by rw [Array.getElem?_toList]; exact h)
  simpa using this

theorem dstIs_iff {o : Oper} {t : Nat} : dstIs o t = true ↔ o.dst = some t := by
  unfold dstIs
  cases o.dst with
  | none => simp
  | some d => simp

theorem okAt_sound {ops : Array Oper} {D M i : Nat} {o : Oper} (h : okAt P ops.toList (itemsOf ops.toList 0) D M i o = true) :
    bit D i = false ∧ (∀ e ∈ predsOf o, bit D e = true) ∧ (∃ g, guardOf ops.toList o = some g) ∧ Stat P ops i o ∧
    (isWr P o = true → (∀ k q, ops[k]? = some q → k ≠ i → bit D k = false → readyB D q = false) ∧
      ∀ k q, ops[k]? = some q → bit D k = true → isWr P q = false → bit M k = false → ∀ d, o.dst = some d → q.dst ≠ some d ∧ d ∉ looksOf ops.toList q) := by
  unfold okAt at h
  simp only [Bool.and_eq_true] at h
  obtain ⟨⟨⟨⟨h1, h2⟩, h3⟩, h4⟩, h5⟩ := h
  simp only [List.all_eq_true] at h4
  refine ⟨by simpa using h1, ?_, Option.isSome_iff_exists.mp h3, ⟨?_, ?_⟩, ?_⟩
  · simpa [readyB, List.all_eq_true] using h2
  · intro j q hq hw t ht hd
    have := h4 _ (mem0 hq)
    simp only [Bool.or_eq_true] at this
    rcases this with (this | this) | this
    · rw [hw] at this; cases this
    · have hx : (looksOf ops.toList o).any (dstIs q) = true := List.any_eq_true.mpr ⟨t, ht, dstIs_iff.mpr hd⟩
      rw [hx] at this; cases this
    · simpa using this
  · intro hw j q hq hji hqw d hd hqd
    rw [hw] at h5
    simp only [List.all_eq_true] at h5
    have := h5 _ (mem0 hq)
    simp only [Bool.or_eq_true] at this
    rcases this with (this | this) | this
    · exact hji (by simpa using this)
    · rw [hqw] at this; cases this
    · rw [hd] at this; simp [dstIs_iff.mpr hqd] at this
  · intro hw
    rw [hw] at h5
    simp only [Bool.and_eq_true, List.all_eq_true] at h5
    refine ⟨?_, ?_⟩
    · intro k q hq hki hk
      have := h5.1 _ (mem0 hq)
      simp only [Bool.or_eq_true] at this
      rcases this with (this | this) | this
      · exact absurd (by simpa using this) hki
      · rw [hk] at this; cases this
      · simpa using this
    · intro k q hq hk hqw hm d hd
      have := h5.2 _ (mem0 hq)
      simp only [Bool.or_eq_true] at this
      rcases this with ((this | this) | this) | this
      · rw [hk] at this; cases this
      · rw [hqw] at this; cases this
      · rw [hm] at this; cases this
      · rw [hd] at this
        simp only [Bool.and_eq_true] at this
        refine ⟨fun e => ?_, fun hmem => ?_⟩
        · rw [dstIs_iff.mpr e] at this; simp at this
        · have hx : (looksOf ops.toList q).any (Nat.beq d) = true := List.any_eq_true.mpr ⟨d, hmem, by simp⟩
          rw [hx] at this; simp at this

theorem guard_looks {ops : Array Oper} {o : Oper} {s : Nat} {b : Bool} (hg : guardOf ops.toList o = some (some (s, b))) : s ∈ looksOf ops.toList o := by
  unfold guardOf at hg
  split at hg
  · cases hg
  rename_i j w hgu
  split at hg <;> try contradiction
  rename_i hq
  cases hg
  simp only [looksOf, hgu, List.mem_append]
  right
  rw [hq]; simp

theorem operand_looks {os : List Oper} {o : Oper} {t : Nat} (h : Operand.tmp t ∈ o.op.operands.toList) : t ∈ looksOf os o := by
  simp only [looksOf, List.mem_append, List.mem_filterMap]
  exact .inl ⟨_, h, rfl⟩

theorem evv_same {os : List Oper} {o : Oper} {tm tm' : T Value} (h : ∀ t ∈ looksOf os o, tmv tm' t = tmv tm t) : ∀ y ∈ o.op.operands.toList, evv tm' y = evv tm y := by
  intro y hy
  cases y with
  | tmp t => exact h t (operand_looks hy)
  | _ => rfl

theorem want_same {ops : Array Oper} {o : Oper} {g : Option (Nat × Bool)} (hg : guardOf ops.toList o = some g) {tm tm' : T Value} (h : ∀ t ∈ looksOf ops.toList o, tmv tm' t = tmv tm t) : wantB tm' g = wantB tm g := by
  cases g with
  | none => rfl
  | some p => obtain ⟨s, b⟩ := p; simp only [wantB, h s (guard_looks hg)]

/-- an operation done ahead: what it came to -/
def Pend (P : Program) (ops : Array Oper) (own : Nat → Option Nat) (h0 : Heap) (φ : Emb) (h : Heap) (tm : T Value) (i : Nat) (o : Oper) : Prop :=
  ∃ g, guardOf ops.toList o = some g ∧ (wantB tm g = false → ∀ d, o.dst = some d → tmv tm d = undef) ∧
    (wantB tm g = true → match clsOf P o.op with
      | .rd x => ∃ v, readO x tm h = some v ∧ ∀ d, o.dst = some d → tmv tm d = v
      | .al x => ∃ n ob mk, own n = some i ∧ makeO x tm = some (ob, mk) ∧ h.bl.get n = some ob ∧ φ n = none ∧ n < h.nx ∧ h0.nx ≤ n ∧ ∀ d, o.dst = some d → tmv tm d = mk n
      | .wr => False)

theorem Pend.keep {ops : Array Oper} {own own' : Nat → Option Nat} {h0 : Heap} {φ' : Emb} {tm tm' : T Value} {i : Nat} {o : Oper} (hp : Pend P ops own h0 φ h tm i o)
    (hl : ∀ t ∈ looksOf ops.toList o, tmv tm' t = tmv tm t) (hd : ∀ d, o.dst = some d → tmv tm' d = tmv tm d)
    (hrd : ∀ x v g, clsOf P o.op = .rd x → guardOf ops.toList o = some g → wantB tm' g = true → readO x tm h = some v → (∀ d, o.dst = some d → tmv tm' d = v) → ∃ v', readO x tm' h' = some v' ∧ ∀ d, o.dst = some d → tmv tm' d = v')
    (hal : ∀ n ob, own n = some i → h.bl.get n = some ob → φ n = none → n < h.nx → h0.nx ≤ n → own' n = some i ∧ h'.bl.get n = some ob ∧ φ' n = none ∧ n < h'.nx) :
    Pend P ops own' h0 φ' h' tm' i o := by
  obtain ⟨g, hg, h1, h2⟩ := hp
  have hw := want_same hg hl
  refine ⟨g, hg, fun hf d hdd => by rw [hd d hdd]; exact h1 (hw ▸ hf) d hdd, fun ht => ?_⟩
  have h2 := h2 (hw ▸ ht)
  cases hc : clsOf P o.op with
  | rd x =>
    rw [hc] at h2
    obtain ⟨v, k1, k2⟩ := h2
    exact hrd x v g hc hg ht k1 fun d hdd => by rw [hd d hdd]; exact k2 d hdd
  | al x =>
    rw [hc] at h2
    obtain ⟨n, ob, mk, k1, k2, k3, k4, k5, k6, k7⟩ := h2
    obtain ⟨j1, j2, j3, j4⟩ := hal n ob k1 k3 k4 k5 k6
    refine ⟨n, ob, mk, j1, ?_, j2, j3, j4, k6, fun d hdd => by rw [hd d hdd]; exact k7 d hdd⟩
    unfold makeO at *
    rw [XA.congr (fun y hy => evv_same hl y (compA_ops (clsOf_al hc) y hy))]
    exact k2
  | wr => rw [hc] at h2; exact h2.elim

abbrev inS (listed : Array Bool) (i : Nat) : Prop := listed.getD i false = true

structure Inv (P : Program) (ops : Array Oper) (nt : Nat) (φ0 : Emb) (h0 : Heap) (w0 : World) (ds : List Deferred) (listed : Array Bool) (D M : Nat) (tm : T Value) (h : Heap) (own : Nat → Option Nat) (φ : Emb) (a : Act) (w : World) : Prop where
  lsz : listed.size = ops.size
  sub : ∀ i, inS listed i → bit D i = true
  clo : ∀ i o, ops[i]? = some o → inS listed i → ∀ e ∈ predsOf o, inS listed e
  wr : ∀ i o, ops[i]? = some o → bit D i = true → isWr P o = true → inS listed i
  mS : ∀ i, bit M i = true → inS listed i
  st : ∀ i o, ops[i]? = some o → bit D i = true → Stat P ops i o ∧ ∀ e ∈ predsOf o, bit D e = true
  small : nt ≤ 1000000000000
  size : a.tmps.size = nt
  rel : ∀ t, t < nt → (∀ i o, ops[i]? = some o → bit D i = true → ¬ inS listed i → o.dst ≠ some t) → VR φ (tmv tm t) (a.tmps.getD t undef)
  hr : HR P φ h w
  ext : Ext φ0 φ h0 h w0 w
  dfs : a.defers = ds
  pend : ∀ i o, ops[i]? = some o → bit D i = true → ¬ inS listed i → Pend P ops own h0 φ h tm i o

section
variable {ops : Array Oper} {nt : Nat} {φ0 : Emb} {h0 : Heap} {w0 : World} {ds : List Deferred} {listed : Array Bool} {D M : Nat} {tm : T Value} {own : Nat → Option Nat} {a : Act}

/-- one that reads or makes is done ahead -/
theorem Inv.ahead (inv : Inv P ops nt φ0 h0 w0 ds listed D M tm h own φ a w) (hok : ∀ q ∈ ops.toList, operOk nt q = true) {i : Nat} {o : Oper} (ho : ops[i]? = some o) (hD : bit D i = false) (hpr : ∀ e ∈ predsOf o, bit D e = true)
    (hst : Stat P ops i o) (hw : isWr P o = false) {v : Value} {h' : Heap} {own' : Nat → Option Nat} (hr' : HR P φ h' w) (hx' : Ext φ0 φ h0 h' w0 w) (hm : More h h') (hnx : h.nx ≤ h'.nx) (hown : ∀ n, n < h.nx → own' n = own n)
    (hpe : Pend P ops own' h0 φ h' (putT tm o.dst v) i o) : Inv P ops nt φ0 h0 w0 ds listed (setBit D i) M (putT tm o.dst v) h' own' φ a w := by
  have hmem : o ∈ ops.toList := List.mem_of_getElem? (by rw [Array.getElem?_toList]; exact ho)
  have hnS : ¬ inS listed i := fun hs => by rw [inv.sub i hs] at hD; cases hD
  have hdst := operOk_dst (hok o hmem)
  refine ⟨inv.lsz, ?_, inv.clo, ?_, inv.mS, ?_, inv.small, inv.size, ?_, hr', hx', inv.dfs, ?_⟩
  · intro k hk; rw [bit_setBit, inv.sub k hk]; rfl
  · intro k q hq hk hkw
    rw [bit_setBit, Bool.or_eq_true] at hk
    rcases hk with hk | hk
    · exact inv.wr k q hq hk hkw
    · have hk : i = k := by simpa using hk
      subst hk; rw [ho] at hq; cases hq; rw [hw] at hkw; cases hkw
  · intro k q hq hk
    rw [bit_setBit, Bool.or_eq_true] at hk
    have up : ∀ {e}, bit D e = true → bit (setBit D i) e = true := fun he => by rw [bit_setBit, he]; rfl
    rcases hk with hk | hk
    · exact ⟨(inv.st k q hq hk).1, fun e he => up ((inv.st k q hq hk).2 e he)⟩
    · have hk : i = k := by simpa using hk
      subst hk; rw [ho] at hq; cases hq; exact ⟨hst, fun e he => up (hpr e he)⟩
  · intro t ht hno
    have h1 : o.dst ≠ some t := hno i o ho (by rw [bit_setBit]; simp) hnS
    rw [tmv_put inv.small hdst ht, if_neg h1]
    exact inv.rel t ht fun k q hq hk hkS => hno k q hq (by rw [bit_setBit, hk]; rfl) hkS
  · intro k q hq hk hkS
    rw [bit_setBit, Bool.or_eq_true] at hk
    by_cases hki : i = k
    · subst hki; rw [ho] at hq; cases hq; exact hpe
    · have hk : bit D k = true := by
        rcases hk with hk | hk
        · exact hk
        · exact absurd (by simpa using hk) hki
      have hqw : isWr P q = false := by
        cases hqw : isWr P q with
        | false => rfl
        | true => exact absurd (inv.wr k q hq hk hqw) hkS
      have hqm : q ∈ ops.toList := List.mem_of_getElem? (by rw [Array.getElem?_toList]; exact hq)
      have hl : ∀ t ∈ looksOf ops.toList q, tmv (putT tm o.dst v) t = tmv tm t := by
        intro t ht
        rw [tmv_put inv.small hdst (looks_lt hok hqm ht), if_neg]
        intro he
        have := (inv.st k q hq hk).2 i ((inv.st k q hq hk).1.k1 i o ho hw t ht he)
        rw [this] at hD; cases hD
      have hd : ∀ d, q.dst = some d → tmv (putT tm o.dst v) d = tmv tm d := by
        intro d hdd
        have hlt : d < nt := by have := operOk_dst (hok q hqm); rw [hdd] at this; exact lt_of_ble this
        rw [tmv_put inv.small hdst hlt, if_neg]
        intro he
        exact hst.k2 hw k q hq (fun e => hki e.symm) hqw d he hdd
      refine (inv.pend k q hq hk hkS).keep hl hd ?_ ?_
      · intro x v' g hc hg hwt hrd hdv
        refine ⟨v', ?_, hdv⟩
        have := compR_more (clsOf_rd hc) hm hrd
        unfold readO at *
        rw [XI.congr (fun y hy => evv_same hl y (compR_ops (clsOf_rd hc) y hy))]
        exact this
      · intro n ob e1 e2 e3 e4 e5
        exact ⟨by rw [hown n e4]; exact e1, hm n ob e2, e3, Nat.lt_of_lt_of_le e4 hnx⟩

end
end Go.Vai
