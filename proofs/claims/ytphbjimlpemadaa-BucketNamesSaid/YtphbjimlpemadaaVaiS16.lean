/-
  PROVED HERE: a part of an interpreter for the model's code, and that it is sound.
  The interpreter is sound, part 16: regions that draw their order, the steps.
-/
import Derived.Test.YtphbjimlpemadaaVaiS15
set_option linter.unusedVariables false
set_option linter.unusedSimpArgs false
namespace Go.Vai
open Go
variable {β : Type} {fl : β} {good : β → Prop} {pr : Prims β} {P : Program} {φ : Emb} {h h' : Heap} {w : World} {t : TypeId}
variable {ops : Array Oper} {nt : Nat} {φ0 : Emb} {h0 : Heap} {w0 : World} {ds : List Deferred} {listed : Array Bool} {D M : Nat} {tm : T Value} {own : Nat → Option Nat} {a : Act}

theorem keyF_long : ∀ (f n : Nat), 2 ^ f ≤ n + 1 → (keyF f n).length = f := by
  intro f
  induction f with
  | zero => intro n _; rfl
  | succ f ih =>
    intro n hn
    have h0 : n ≠ 0 := by rintro rfl; have := Nat.one_lt_two_pow (n := f + 1) (by omega); omega
    rw [keyF_succ, if_neg h0, List.length_cons, ih]
    rw [Nat.pow_succ] at hn
    omega
theorem keyF_short : ∀ (f n : Nat), n + 1 < 2 ^ f → (keyF f n).length < f := by
  intro f
  induction f with
  | zero => intro n hn; simp at hn
  | succ f ih =>
    intro n hn
    rw [keyF_succ]
    split
    · simp
    · rw [List.length_cons]
      have := ih ((n - 1) / 2) (by rw [Nat.pow_succ] at hn; omega)
      omega

theorem More.refl (h : Heap) : More h h := fun _ _ e => e

theorem inS_set {i k : Nat} (hi : i < listed.size) : inS (listed.setIfInBounds i true) k ↔ k = i ∨ inS listed k := by
  unfold inS
  simp only [Array.getD_eq_getD_getElem?]
  by_cases he : i = k
  · subst he; simp [Array.getElem?_setIfInBounds_self_of_lt hi]
  · rw [Array.getElem?_setIfInBounds_ne he]
    constructor
    · exact fun h => .inr h
    · rintro (h | h)
      · exact absurd h.symm he
      · exact h

theorem put_getD {a : Act} {d : Option Nat} {v : Value} {t : Nat} (ht : t < a.tmps.size) : (a.put d v).tmps.getD t undef = if d = some t then v else a.tmps.getD t undef := by
  cases d with
  | none => simp [Act.put]
  | some d =>
    simp only [Act.put, Array.getD_eq_getD_getElem?]
    by_cases he : d = t
    · subst he; rw [if_pos rfl, Array.getElem?_setIfInBounds_self_of_lt ht]; rfl
    · rw [if_neg (by simpa using he), Array.getElem?_setIfInBounds_ne he]
theorem put_size {a : Act} {d : Option Nat} {v : Value} : (a.put d v).tmps.size = a.tmps.size := by cases d <;> simp [Act.put]
theorem put_dfs {a : Act} {d : Option Nat} {v : Value} : (a.put d v).defers = a.defers := by cases d <;> rfl

theorem isWr_of_rd {o : Oper} {x : OXI} (h : clsOf P o.op = .rd x) : isWr P o = false := by unfold isWr; rw [h]
theorem isWr_of_al {o : Oper} {x : OXA} (h : clsOf P o.op = .al x) : isWr P o = false := by unfold isWr; rw [h]
theorem isWr_true {o : Oper} (h : isWr P o = true) : clsOf P o.op = .wr := by
  unfold isWr at h
  split at h
  · assumption
  · cases h

theorem memO {i : Nat} {o : Oper} (ho : ops[i]? = some o) : o ∈ ops.toList := List.mem_of_getElem? (by rw [Array.getElem?_toList]; exact ho)

/-- an operation that does not write, ahead of the real run -/
theorem Inv.advance (hfl : ¬ good fl) (inv : Inv P ops nt φ0 h0 w0 ds listed D M tm h own φ a w) (hok : ∀ q ∈ ops.toList, operOk nt q = true) {rec : Rec β} {i : Nat} {o : Oper} (ho : ops[i]? = some o) (hD : bit D i = false)
    (hpr : ∀ e ∈ predsOf o, bit D e = true) (hst : Stat P ops i o) (hw : isWr P o = false) {M' : Nat} {κ : T Value → Heap → β} (hg : good (stepPlan fl pr P rec ops.toList D M' o tm h κ)) :
    ∃ tm' h' own', Inv P ops nt φ0 h0 w0 ds listed (setBit D i) M tm' h' own' φ a w ∧ good (κ tm' h') := by
  have hdst := operOk_dst (hok o (memO ho))
  have hl : ∀ v, ∀ t ∈ looksOf ops.toList o, tmv (putT tm o.dst v) t = tmv tm t := by
    intro v t ht
    rw [tmv_put inv.small hdst (looks_lt hok (memO ho) ht), if_neg]
    intro he
    have := hpr i (hst.k1 i o ho hw t ht he)
    rw [this] at hD; cases hD
  have hdv : ∀ v d, o.dst = some d → tmv (putT tm o.dst v) d = v := by
    intro v d hd
    have hlt : d < nt := by rw [hd] at hdst; exact lt_of_ble hdst
    rw [tmv_put inv.small hdst hlt, if_pos hd]
  unfold stepPlan at hg
  split at hg
  · exact absurd hg hfl
  rename_i g hgo
  split at hg
  · rename_i hwt
    rw [putK_eq] at hg
    refine ⟨_, _, own, inv.ahead hok ho hD hpr hst hw inv.hr inv.ext (More.refl h) (Nat.le_refl _) (fun _ _ => rfl) ?_, hg⟩
    refine ⟨g, hgo, fun _ d hd => hdv _ d hd, fun ht => ?_⟩
    rw [want_same hgo (hl _), hwt] at ht; cases ht
  · rename_i hwt
    split at hg
    · rename_i x hc
      split at hg
      · rename_i v hv
        rw [putK_eq] at hg
        refine ⟨_, _, own, inv.ahead hok ho hD hpr hst hw inv.hr inv.ext (More.refl h) (Nat.le_refl _) (fun _ _ => rfl) ?_, hg⟩
        refine ⟨g, hgo, fun hf => ?_, fun _ => ?_⟩
        · rw [want_same hgo (hl _), hwt] at hf; cases hf
        · rw [hc]
          refine ⟨v, ?_, fun d hd => hdv _ d hd⟩
          unfold readO at *
          rw [XI.congr (fun y hy => evv_same (hl v) y (compR_ops (clsOf_rd hc) y hy))]
          exact hv
      · exact absurd hg hfl
    · rename_i x hc
      split at hg
      · rename_i ob mk hv
        obtain ⟨hn, hg⟩ := newBlock_good hfl hg
        rw [putK_eq] at hg
        have hs : Small h.nx := by unfold Small; omega
        have hnone : φ h.nx = none := by
          cases hp : φ h.nx with
          | none => rfl
          | some pl => have := (inv.hr.dom _ _ hp).1; omega
        refine ⟨_, _, (fun n => if n = h.nx then some i else own n), inv.ahead hok ho hD hpr hst hw (inv.hr.unborn hn ob) (inv.ext.unborn inv.hr.lo hn ob) ?_ (Nat.le_succ _) (fun n hn => if_neg (by omega)) ?_, hg⟩
        · intro b o' hb
          by_cases hsb : Small b
          · have := inv.hr.keys b o' hsb hb
            show (h.bl.upd h.nx ob).get b = some o'
            rw [T.get_upd_ne _ _ hs hsb (by omega)]
            exact hb
          · show (h.bl.upd h.nx ob).get b = some o'
            have h1 : (key h.nx).length < 200 := keyF_short 200 h.nx (by have : (1000000000001 : Nat) < 2 ^ 200 := by decide
                                                                         omega)
            have h2 : (key b).length = 200 := keyF_long 200 b (by unfold Small at hsb; omega)
            have h3 : key h.nx ≠ key b := fun e => by rw [e] at h1; omega
            show T.getp (key b) (T.setv ob (key h.nx) h.bl) = some o'
            rw [T.getp_setv_ne ob (key h.nx) (key b) h.bl h3]
            exact hb
        · refine ⟨g, hgo, fun hf => ?_, fun _ => ?_⟩
          · rw [want_same hgo (hl _), hwt] at hf; cases hf
          · rw [hc]
            refine ⟨h.nx, ob, mk, if_pos rfl, ?_, T.get_upd_same _ _ _, hnone, Nat.lt_succ_self _, inv.ext.nx, fun d hd => hdv _ d hd⟩
            unfold makeO at *
            rw [XA.congr (fun y hy => evv_same (hl _) y (compA_ops (clsOf_al hc) y hy))]
            exact hv
      · exact absurd hg hfl
    · rename_i hc
      rw [isWr, hc] at hw; cases hw

/-- the real run has come to an operation that was done ahead -/
theorem Inv.done (inv : Inv P ops nt φ0 h0 w0 ds listed D M tm h own φ a w) (hok : ∀ q ∈ ops.toList, operOk nt q = true) {i : Nat} {o : Oper} (ho : ops[i]? = some o) (hD : bit D i = true) (hpS : ∀ e ∈ predsOf o, inS listed e)
    {φ' : Emb} {w' : World} {v' : Value} (hv : ∀ d, o.dst = some d → VR φ' (tmv tm d) v') (hs : Sub φ φ') (hr' : HR P φ' h w') (hx' : Ext φ0 φ' h0 h w0 w') (hφ : ∀ n, own n ≠ some i → φ n = none → φ' n = none) :
    Inv P ops nt φ0 h0 w0 ds (listed.setIfInBounds i true) D M tm h own φ' (a.put o.dst v') w' := by
  have hil : i < listed.size := by rw [inv.lsz]; exact (Array.getElem?_eq_some_iff.mp ho).1
  refine ⟨by simp [inv.lsz], ?_, ?_, ?_, ?_, inv.st, inv.small, by rw [put_size]; exact inv.size, ?_, hr', hx', by rw [put_dfs]; exact inv.dfs, ?_⟩
  · intro k hk
    rcases (inS_set hil).mp hk with rfl | hk
    · exact hD
    · exact inv.sub k hk
  · intro k q hq hk e he
    rw [inS_set hil]
    rcases (inS_set hil).mp hk with rfl | hk
    · rw [ho] at hq; cases hq; exact .inr (hpS e he)
    · exact .inr (inv.clo k q hq hk e he)
  · intro k q hq hk hkw; rw [inS_set hil]; exact .inr (inv.wr k q hq hk hkw)
  · intro k hk; rw [inS_set hil]; exact .inr (inv.mS k hk)
  · intro t ht hno
    rw [put_getD (by rw [inv.size]; exact ht)]
    by_cases hd : o.dst = some t
    · rw [if_pos hd]; exact hv t hd
    · rw [if_neg hd]
      refine (inv.rel t ht fun k q hq hk hkS => ?_).mono hs
      by_cases hki : k = i
      · subst hki; rw [ho] at hq; cases hq; exact hd
      · exact hno k q hq hk (fun hh => by rcases (inS_set hil).mp hh with h1 | h1 <;> contradiction)
  · intro k q hq hk hkS
    rw [inS_set hil] at hkS
    have hki : k ≠ i := fun e => hkS (.inl e)
    have hkS' : ¬ inS listed k := fun e => hkS (.inr e)
    refine (inv.pend k q hq hk hkS').keep (fun _ _ => rfl) (fun _ _ => rfl) (fun x v g _ _ _ e1 e2 => ⟨v, e1, e2⟩) ?_
    intro n ob e1 e2 e3 e4 e5
    exact ⟨e1, e2, hφ n (by rw [e1]; intro hh; cases hh; exact hki rfl) e3, e4⟩

theorem Inv.looks (inv : Inv P ops nt φ0 h0 w0 ds listed D M tm h own φ a w) (hok : ∀ q ∈ ops.toList, operOk nt q = true) {i : Nat} {o : Oper} (ho : ops[i]? = some o) (hst : Stat P ops i o) (hpS : ∀ e ∈ predsOf o, inS listed e) :
    ∀ t ∈ looksOf ops.toList o, t < a.tmps.size ∧ VR φ (tmv tm t) (a.tmps.getD t undef) := by
  intro t ht
  have hlt := looks_lt hok (memO ho) ht
  refine ⟨by rw [inv.size]; exact hlt, inv.rel t hlt fun k q hq hk hkS hqd => hkS (hpS k (hst.k1 k q hq ?_ t ht hqd))⟩
  cases hqw : isWr P q with
  | false => rfl
  | true => exact absurd (inv.wr k q hq hk hqw) hkS

theorem Inv.opVR (inv : Inv P ops nt φ0 h0 w0 ds listed D M tm h own φ a w) (hok : ∀ q ∈ ops.toList, operOk nt q = true) {i : Nat} {o : Oper} (ho : ops[i]? = some o) (hst : Stat P ops i o) (hpS : ∀ e ∈ predsOf o, inS listed e) :
    ∀ y ∈ o.op.operands.toList, VR φ (evv tm y) (a.eval y) := by
  intro y hy
  have hyo := operOk_opn (hok o (memO ho)) y hy
  cases y with
  | tmp t => exact (inv.looks hok ho hst hpS t (operand_looks hy)).2
  | const v => exact selfOk_VR hyo
  | func f => exact VR.func' .nil .nil
  | global g => cases hyo

theorem Inv.wanted (inv : Inv P ops nt φ0 h0 w0 ds listed D M tm h own φ a w) (hok : ∀ q ∈ ops.toList, operOk nt q = true) {i : Nat} {o : Oper} (ho : ops[i]? = some o) (hst : Stat P ops i o) (hpS : ∀ e ∈ predsOf o, inS listed e)
    {g : Option (Nat × Bool)} (hg : guardOf ops.toList o = some g) : Region.wanted o (yielded ops a.tmps) = wantB tm g :=
  wanted_eq (φ := φ) hg fun s _ _ hs => inv.looks hok ho hst hpS s hs

theorem Inv.late (inv : Inv P ops nt φ0 h0 w0 ds listed D M tm h own φ a w) (hok : ∀ q ∈ ops.toList, operOk nt q = true) {i : Nat} {o : Oper} (ho : ops[i]? = some o) (hD : bit D i = true) (hnS : ¬ inS listed i) (hpS : ∀ e ∈ predsOf o, inS listed e)
    {Q : Exit → Act → World → Prop} {K : Act → World → Prop} {r0 : Option Nat} (hK : ∀ φ' a' w', Inv P ops nt φ0 h0 w0 ds (listed.setIfInBounds i true) D M tm h own φ' a' w' → K a' w') : wpOpIn (FR r0) 0 P ops Q i K a w := by
  obtain ⟨hst, _⟩ := inv.st i o ho hD
  obtain ⟨g, hg, h1, h2⟩ := inv.pend i o ho hD hnS
  have hlt : ∀ d, o.dst = some d → d < nt := fun d hd => by have := operOk_dst (hok o (memO ho)); rw [hd] at this; exact lt_of_ble this
  simp only [wpOpIn, ho]
  rw [inv.wanted hok ho hst hpS hg]
  cases hw : wantB tm g with
  | false =>
    rw [if_neg (by simp)]
    exact ⟨about_all, hK φ _ w (inv.done hok ho hD hpS (fun d hd => by rw [h1 hw d hd]; exact VR.undef) (Sub.refl φ) inv.hr inv.ext (fun _ _ e => e))⟩
  | true =>
    rw [if_pos rfl]
    have h2 := h2 hw
    have hρ := inv.opVR hok ho hst hpS
    cases hc : clsOf P o.op with
    | rd x =>
      rw [hc] at h2
      obtain ⟨v, k1, k2⟩ := h2
      obtain ⟨v0, v', e1, e2, e3⟩ := compR_sound (β := Option Value) (fl := none) (good := fun r => r = some v) (by simp) (clsOf_rd hc) hρ inv.hr (κ := fun v _ => some v) k1 rfl
      cases e1
      refine ⟨about_all, ?_⟩
      rw [Oper.semAt_eq _ _ _ (fun c hcd => by rw [hcd] at hc; cases hc), e3]
      exact hK φ _ w (inv.done hok ho hD hpS (fun d hd => by rw [k2 d hd]; exact e2) (Sub.refl φ) inv.hr inv.ext (fun _ _ e => e))
    | al x =>
      rw [hc] at h2
      obtain ⟨n, ob, mk, k1, k2, k3, k4, k5, k6, k7⟩ := h2
      obtain ⟨ob', mk', O, e1, e2, e3, e4, e5⟩ := compA_sound (β := Option (AObj × (Nat → Value))) (fl := none) (good := fun r => r = some (ob, mk)) (P := P) (w := w) (by simp) (clsOf_al hc) hρ (κ := fun o mk => some (o, mk)) k2 rfl
      cases e1
      refine ⟨about_all, ?_⟩
      rw [Oper.semAt_eq _ _ _ (fun c hcd => by rw [hcd] at hc; cases hc), e5]
      refine hK (addPl φ n ⟨w.heap.size, 0, 0⟩) _ _ (inv.done hok ho hD hpS (fun d hd => by rw [k7 d hd]; exact e4 _ _ _ (addPl_same _ _ _)) (addPl_sub k4) (inv.hr.birth k3 k4 k5 0 0 (e3 _)) (inv.ext.birth k4 k6 O (UF_of_OR (e3 ⟨0, 0, 0⟩) e2) 0 0) ?_)
      intro m hm1 hm2
      unfold addPl
      rw [if_neg]
      · exact hm2
      · intro he; subst he; exact hm1 k1
    | wr => rw [hc] at h2; exact h2.elim

end Go.Vai
