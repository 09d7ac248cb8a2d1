/-
  PROVED HERE: a part of an interpreter for the model's code, and that it is sound.
  The interpreter is sound, part 17: regions that draw their order, all of it.
-/
import Derived.Test.YtphbjimlpemadaaVaiS16
set_option linter.unusedVariables false
set_option linter.unusedSimpArgs false
namespace Go.Vai
open Go
variable {β : Type} {fl : β} {good : β → Prop} {pr : Prims β} {P : Program} {φ : Emb} {h h' : Heap} {w : World} {t : TypeId}
variable {ops : Array Oper} {nt : Nat} {φ0 : Emb} {h0 : Heap} {w0 : World} {ds : List Deferred} {listed : Array Bool} {D M : Nat} {tm : T Value} {own : Nat → Option Nat} {a : Act}

theorem sameB_sound : ∀ (its : List It), sameB P ops.toList D M tm h its = true → ∀ k q, (k, q) ∈ its → bit D k = true → bit M k = false → ∀ x g, clsOf P q.op = .rd x → guardOf ops.toList q = some g → wantB tm g = true →
    ∃ v, readO x tm h = some v ∧ ∀ d, q.dst = some d → tmv tm d = v := by
  intro its
  induction its with
  | nil => intro _ k q hm; cases hm
  | cons it its ih =>
    obtain ⟨j, o⟩ := it
    intro hs k q hm hD hM x g hc hg hw
    simp only [List.mem_cons] at hm
    unfold sameB at hs
    rcases hm with e | hm
    · cases e
      simp only [hD, hM, hc, hg, hw, Bool.not_false, Bool.and_true, Bool.and_eq_true] at hs
      have hs := hs.1
      split at hs
      · rename_i v d hv hd
        refine ⟨v, hv, fun d' hd' => ?_⟩
        rw [hd] at hd'; cases hd'
        exact (veq_eq 8 _ _ hs).symm
      · rename_i v hv hd
        exact ⟨v, hv, fun d' hd' => by rw [hd] at hd'; cases hd'⟩
      · cases hs
    · refine ih ?_ k q hm hD hM x g hc hg hw
      split at hs
      · simp only [Bool.and_eq_true] at hs; exact hs.2
      · exact hs

theorem anyRd_sound {its : List It} (ha : anyRd P D M its = false) {k : Nat} {q : Oper} (hm : (k, q) ∈ its) (hD : bit D k = true) (hM : bit M k = false) {x : OXI} (hc : clsOf P q.op = .rd x) : False := by
  unfold anyRd at ha
  rw [List.any_eq_false] at ha
  have := ha _ hm
  simp [hD, hM, hc] at this

/-- the real run has come to an operation that may write -/
theorem Inv.wrote (inv : Inv P ops nt φ0 h0 w0 ds listed D M tm h own φ a w) (hok : ∀ q ∈ ops.toList, operOk nt q = true) {i : Nat} {o : Oper} (ho : ops[i]? = some o) (hD : bit D i = false) (hpS : ∀ e ∈ predsOf o, inS listed e)
    (hst : Stat P ops i o) (hw : isWr P o = true) {M' : Nat} (hM : ∀ k, bit M' k = true → inS listed k)
    (hno : ∀ k q, ops[k]? = some q → bit D k = true → isWr P q = false → bit M' k = false → ∀ d, o.dst = some d → q.dst ≠ some d ∧ d ∉ looksOf ops.toList q)
    {φ' : Emb} {w' : World} {v v' : Value} {h' : Heap} (hv : VR φ' v v') (hr' : HR P φ' h' w') (hx : Ext φ φ' h h' w w')
    (hre : ∀ k q, ops[k]? = some q → bit D k = true → bit M' k = false → ¬ inS listed k → ∀ x g, clsOf P q.op = .rd x → guardOf ops.toList q = some g → wantB (putT tm o.dst v) g = true →
      ∃ v1, readO x (putT tm o.dst v) h' = some v1 ∧ ∀ d, q.dst = some d → tmv (putT tm o.dst v) d = v1) :
    Inv P ops nt φ0 h0 w0 ds (listed.setIfInBounds i true) (setBit D i) M' (putT tm o.dst v) h' own φ' (a.put o.dst v') w' := by
  have hil : i < listed.size := by rw [inv.lsz]; exact (Array.getElem?_eq_some_iff.mp ho).1
  have hdst := operOk_dst (hok o (memO ho))
  have pendD : ∀ {k q}, ops[k]? = some q → bit (setBit D i) k = true → ¬ inS (listed.setIfInBounds i true) k → bit D k = true ∧ ¬ inS listed k ∧ isWr P q = false ∧ bit M' k = false := by
    intro k q hq hk hkS
    rw [inS_set hil] at hkS
    have hki : k ≠ i := fun e => hkS (.inl e)
    have hkS' : ¬ inS listed k := fun e => hkS (.inr e)
    rw [bit_setBit, Bool.or_eq_true] at hk
    have hk : bit D k = true := by
      rcases hk with hk | hk
      · exact hk
      · exact absurd (by simpa using hk : i = k).symm hki
    refine ⟨hk, hkS', ?_, ?_⟩
    · cases hqw : isWr P q with
      | false => rfl
      | true => exact absurd (inv.wr k q hq hk hqw) hkS'
    · cases hm : bit M' k with
      | false => rfl
      | true => exact absurd (hM k hm) hkS'
  refine ⟨by simp [inv.lsz], ?_, ?_, ?_, ?_, ?_, inv.small, by rw [put_size]; exact inv.size, ?_, hr', inv.ext.trans hx, by rw [put_dfs]; exact inv.dfs, ?_⟩
  · intro k hk
    rw [bit_setBit]
    rcases (inS_set hil).mp hk with rfl | hk
    · simp
    · rw [inv.sub k hk]; rfl
  · intro k q hq hk e he
    rw [inS_set hil]
    rcases (inS_set hil).mp hk with rfl | hk
    · rw [ho] at hq; cases hq; exact .inr (hpS e he)
    · exact .inr (inv.clo k q hq hk e he)
  · intro k q hq hk hkw
    rw [inS_set hil]
    rw [bit_setBit, Bool.or_eq_true] at hk
    rcases hk with hk | hk
    · exact .inr (inv.wr k q hq hk hkw)
    · exact .inl (by simpa using hk : i = k).symm
  · intro k hk; rw [inS_set hil]; exact .inr (hM k hk)
  · intro k q hq hk
    rw [bit_setBit, Bool.or_eq_true] at hk
    have up : ∀ {e}, bit D e = true → bit (setBit D i) e = true := fun he => by rw [bit_setBit, he]; rfl
    rcases hk with hk | hk
    · exact ⟨(inv.st k q hq hk).1, fun e he => up ((inv.st k q hq hk).2 e he)⟩
    · have hk : i = k := by simpa using hk
      subst hk; rw [ho] at hq; cases hq; exact ⟨hst, fun e he => up (inv.sub e (hpS e he))⟩
  · intro t ht hnot
    rw [put_getD (by rw [inv.size]; exact ht), tmv_put inv.small hdst ht]
    by_cases hd : o.dst = some t
    · rw [if_pos hd, if_pos hd]; exact hv
    · rw [if_neg hd, if_neg hd]
      refine (inv.rel t ht fun k q hq hk hkS => hnot k q hq (by rw [bit_setBit, hk]; rfl) ?_).mono hx.sub
      rw [inS_set hil]
      rintro (rfl | hh)
      · rw [hk] at hD; cases hD
      · exact hkS hh
  · intro k q hq hk hkS
    obtain ⟨hk1, hk2, hk3, hk4⟩ := pendD hq hk hkS
    have hl : ∀ t ∈ looksOf ops.toList q, tmv (putT tm o.dst v) t = tmv tm t := by
      intro t ht
      rw [tmv_put inv.small hdst (looks_lt hok (memO hq) ht), if_neg]
      intro he
      exact (hno k q hq hk1 hk3 hk4 t he).2 ht
    have hd : ∀ d, q.dst = some d → tmv (putT tm o.dst v) d = tmv tm d := by
      intro d hdd
      have hlt : d < nt := by have := operOk_dst (hok q (memO hq)); rw [hdd] at this; exact lt_of_ble this
      rw [tmv_put inv.small hdst hlt, if_neg]
      intro he
      exact (hno k q hq hk1 hk3 hk4 d he).1 hdd
    refine (inv.pend k q hq hk1 hk2).keep hl hd (fun x v1 g hc hg hwt _ _ => hre k q hq hk1 hk4 hk2 x g hc hg hwt) ?_
    intro n ob e1 e2 e3 e4 e5
    refine ⟨e1, by rw [hx.frA n e4 e3]; exact e2, ?_, Nat.lt_of_lt_of_le e4 hx.nx⟩
    cases hp : φ' n with
    | none => rfl
    | some pl => have := (hx.new n pl e3 hp).1; omega

theorem Inv.write (hfl : ¬ good fl) (hp : PrimsOk good pr P) {rec : Rec β} (hrec : RunOk good P rec) (inv : Inv P ops nt φ0 h0 w0 ds listed D M tm h own φ a w) (hok : ∀ q ∈ ops.toList, operOk nt q = true) {i : Nat} {o : Oper} (ho : ops[i]? = some o)
    (hD : bit D i = false) (hpS : ∀ e ∈ predsOf o, inS listed e) (hst : Stat P ops i o) (hw : isWr P o = true) {M' : Nat} (hM : ∀ k, bit M' k = true → inS listed k)
    (hno : ∀ k q, ops[k]? = some q → bit D k = true → isWr P q = false → bit M' k = false → ∀ d, o.dst = some d → q.dst ≠ some d ∧ d ∉ looksOf ops.toList q)
    {κ : T Value → Heap → β} (hg : good (stepPlan fl pr P rec ops.toList D M' o tm h κ)) {Q : Exit → Act → World → Prop} {K : Act → World → Prop} {r0 : Option Nat}
    (hK : ∀ tm' h' φ' a' w', Inv P ops nt φ0 h0 w0 ds (listed.setIfInBounds i true) (setBit D i) M' tm' h' own φ' a' w' → good (κ tm' h') → K a' w') : wpOpIn (FR r0) 0 P ops Q i K a w := by
  simp only [wpOpIn, ho]
  unfold stepPlan at hg
  split at hg
  · exact absurd hg hfl
  rename_i g hgo
  rw [inv.wanted hok ho hst hpS hgo]
  split at hg
  · rename_i hwt
    rw [putK_eq] at hg
    rw [hwt, if_neg (by simp)]
    refine ⟨about_all, ?_⟩
    refine hK _ _ φ _ w (inv.wrote hok ho hD hpS hst hw hM hno VR.undef inv.hr (Ext.refl _ _ _) ?_) hg
    intro k q hq hk hkM hkS x g' hc hg' hwt'
    have hk3 := isWr_of_rd hc
    have hdst := operOk_dst (hok o (memO ho))
    have hl : ∀ t ∈ looksOf ops.toList q, tmv (putT tm o.dst undef) t = tmv tm t := by
      intro t ht
      rw [tmv_put inv.small hdst (looks_lt hok (memO hq) ht), if_neg]
      intro he
      exact (hno k q hq hk hk3 hkM t he).2 ht
    obtain ⟨g2, e1, e2, e3⟩ := inv.pend k q hq hk hkS
    rw [hg'] at e1; cases e1
    have e3 := e3 (by rw [← want_same hg' hl]; exact hwt')
    rw [hc] at e3
    obtain ⟨v, k1, k2⟩ := e3
    refine ⟨v, ?_, fun d hdd => ?_⟩
    · unfold readO at *
      rw [XI.congr (fun y hy => evv_same hl y (compR_ops (clsOf_rd hc) y hy))]
      exact k1
    · have hlt : d < nt := by have := operOk_dst (hok q (memO hq)); rw [hdd] at this; exact lt_of_ble this
      rw [tmv_put inv.small hdst hlt, if_neg]
      · exact k2 d hdd
      · intro he
        exact (hno k q hq hk hk3 hkM d he).1 hdd
  · rename_i hwt
    rw [hwt, if_pos rfl]
    rw [isWr_true hw] at hg
    refine compF_wp hfl hp hrec (inv.opVR hok ho hst hpS) inv.hr hg ?_
    intro φ' v v' h' w' g1 g2 g3 g4
    rw [putK_eq] at g1
    split at g1
    · rename_i ha
      refine hK _ _ φ' _ w' (inv.wrote hok ho hD hpS hst hw hM hno g2 g3 g4 ?_) g1
      intro k q hq hk hkM hkS x g' hc hg' hwt'
      exact (anyRd_sound ha (mem0 hq) hk hkM hc).elim
    · split at g1
      · rename_i hsm
        refine hK _ _ φ' _ w' (inv.wrote hok ho hD hpS hst hw hM hno g2 g3 g4 ?_) g1
        intro k q hq hk hkM hkS x g' hc hg' hwt'
        exact sameB_sound _ hsm k q (mem0 hq) hk hkM x g' hc hg' hwt'
      · exact absurd g1 hfl

/-! ## those that must have come -/
theorem foldl_bits {S : Nat → Prop} : ∀ (l : List Nat) (m : Nat), (∀ k, bit m k = true → S k) → (∀ e ∈ l, S e) → ∀ k, bit (l.foldl setBit m) k = true → S k := by
  intro l
  induction l with
  | nil => intro m h1 _ k hk; exact h1 k hk
  | cons e l ih =>
    intro m h1 h2 k hk
    refine ih (setBit m e) ?_ (fun x hx => h2 x (by simp [hx])) k hk
    intro x hx
    rw [bit_setBit, Bool.or_eq_true] at hx
    rcases hx with hx | hx
    · exact h1 x hx
    · have : e = x := by simpa using hx
      subst this; exact h2 e (by simp)

theorem ancF_bits {S : Nat → Prop} {os : List Oper} (hc : ∀ i o, os[i]? = some o → S i → ∀ e ∈ predsOf o, S e) : ∀ (i m : Nat), (∀ k, bit m k = true → S k) → ∀ k, bit (ancF os i m) k = true → S k := by
  intro i
  induction i with
  | zero => intro m h1 k hk; exact h1 k hk
  | succ i ih =>
    intro m h1 k hk
    unfold ancF at hk
    split at hk
    · rename_i o hb ho
      exact ih _ (foldl_bits _ _ h1 (hc i o ho (h1 i hb))) k hk
    · exact ih m h1 k hk

theorem ancOf_bits {S : Nat → Prop} {os : List Oper} (hc : ∀ i o, os[i]? = some o → S i → ∀ e ∈ predsOf o, S e) {i : Nat} {o : Oper} (ho : os[i]? = some o) (hp : ∀ e ∈ predsOf o, S e) : ∀ k, bit (ancOf os i) k = true → S k := by
  unfold ancOf
  rw [ho]
  exact ancF_bits hc i _ (foldl_bits _ _ (fun k hk => by rw [bit_zero] at hk; cases hk) hp)

/-! ## the region -/
theorem ready_mem {i : Nat} (hi : i ∈ Region.ready .any ops listed) : ∃ o, ops[i]? = some o ∧ ¬ inS listed i ∧ ∀ e ∈ predsOf o, inS listed e := by
  unfold Region.ready at hi
  simp only [List.mem_filter, List.mem_range, Bool.and_eq_true] at hi
  obtain ⟨h1, h2, h3⟩ := hi
  have ho : ops[i]? = some ops[i] := by simp [h1]
  refine ⟨ops[i], ho, ?_, ?_⟩
  · intro hh
    unfold inS at hh
    simp only [Array.getD_eq_getD_getElem?] at hh h2
    cases hl : listed[i]? with
    | none => rw [hl] at hh; simp at hh
    | some b => rw [hl] at hh h2; simp at hh h2; rw [hh] at h2; cases h2
  · intro e he
    rw [ho] at h3
    simp only [Option.map_some, Option.getD_some, Array.all_eq_true'] at h3
    unfold predsOf at he
    simp only [List.mem_map, List.mem_filter] at he
    obtain ⟨x, ⟨hx, hb⟩, rfl⟩ := he
    have := h3 x (by simpa using hx)
    rw [hb] at this
    simp only [Bool.not_true, Bool.false_or] at this
    exact this

theorem mem_ready {i : Nat} {o : Oper} (ho : ops[i]? = some o) (hsz : listed.size = ops.size) (hn : ¬ inS listed i) (hp : ∀ e ∈ predsOf o, inS listed e) : i ∈ Region.ready .any ops listed := by
  have hlt : i < ops.size := (Array.getElem?_eq_some_iff.mp ho).1
  unfold Region.ready
  simp only [List.mem_filter, List.mem_range, Bool.and_eq_true]
  refine ⟨hlt, ?_, ?_⟩
  · have hll : i < listed.size := by omega
    unfold inS at hn
    simp only [Array.getD_eq_getD_getElem?, getElem?_pos listed i hll] at hn ⊢
    simpa using hn
  · rw [ho]
    simp only [Option.map_some, Option.getD_some, Array.all_eq_true']
    intro e he
    cases hb : Region.binds .any e with
    | false => rfl
    | true =>
      have := hp e.on (by unfold predsOf; simp only [List.mem_map, List.mem_filter]; exact ⟨e, ⟨by simpa using he, hb⟩, rfl⟩)
      simp only [Bool.not_true, Bool.false_or]
      exact this

section
variable {nt : Nat} {κ : T Value → Heap → β} {Q : Exit → Act → World → Prop} {r0 : Option Nat}

theorem all_in {own : Nat → Option Nat} (inv : Inv P ops nt φ0 h0 w0 ds listed D M tm h own φ a w) (hidx : ∀ i o, ops[i]? = some o → ∀ e ∈ predsOf o, e < i) (hr : Region.ready .any ops listed = []) : ∀ i o, ops[i]? = some o → inS listed i := by
  intro i
  induction i using Nat.strongRecOn with
  | _ i ih =>
    intro o ho
    by_cases hi : inS listed i
    · exact hi
    · have hlt : i < ops.size := (Array.getElem?_eq_some_iff.mp ho).1
      have := mem_ready ho inv.lsz hi fun e he => by
        have hei := hidx i o ho e he
        exact ih e hei ops[e] (by simp)
      rw [hr] at this; cases this

theorem Inv.full {own : Nat → Option Nat} (inv : Inv P ops nt φ0 h0 w0 ds listed D M tm h own φ a w) (hall : ∀ i o, ops[i]? = some o → inS listed i) : TR φ nt tm a :=
  ⟨inv.size, inv.small, fun t ht => inv.rel t ht fun i o ho _ hS => absurd (hall i o ho) hS⟩

theorem okPlan_cons {i : Nat} {is : List Nat} {D M : Nat} (hp : okPlan P ops.toList (i :: is) D M = true) : ∃ o, ops[i]? = some o ∧
    okAt P ops.toList (itemsOf ops.toList 0) D (match isWr P o with | true => Nat.lor M (ancOf ops.toList i) | false => M) i o = true ∧
    okPlan P ops.toList is (setBit D i) (match isWr P o with | true => Nat.lor M (ancOf ops.toList i) | false => M) = true := by
  unfold okPlan at hp
  split at hp <;> try contradiction
  rename_i o ho
  rw [Array.getElem?_toList] at ho
  simp only [Bool.and_eq_true] at hp
  exact ⟨o, ho, hp.1, hp.2⟩

/-- ahead, until the operation that is due is done or is the next, and may write -/
theorem toOp (hfl : ¬ good fl) (hok : ∀ q ∈ ops.toList, operOk nt q = true) {rec : Rec β} {i : Nat} {o : Oper} (ho : ops[i]? = some o) (hnS : ¬ inS listed i) (hpS : ∀ e ∈ predsOf o, inS listed e) :
    ∀ (l : List Nat) (D M : Nat) (tm : T Value) (h : Heap) (own : Nat → Option Nat), Inv P ops nt φ0 h0 w0 ds listed D M tm h own φ a w → okPlan P ops.toList l D M = true → good (runPlan fl pr P rec ops.toList l D M tm h κ) →
      ∃ l' D' tm' h' own', Inv P ops nt φ0 h0 w0 ds listed D' M tm' h' own' φ a w ∧ okPlan P ops.toList l' D' M = true ∧ good (runPlan fl pr P rec ops.toList l' D' M tm' h' κ) ∧
        (bit D' i = true ∨ (isWr P o = true ∧ ∃ js, l' = i :: js)) := by
  intro l
  induction l with
  | nil =>
    intro D M tm h own inv hp hg
    refine ⟨[], D, tm, h, own, inv, hp, hg, .inl ?_⟩
    unfold okPlan at hp
    rw [List.all_eq_true] at hp
    exact hp _ (mem0 ho)
  | cons j js ih =>
    intro D M tm h own inv hp hg
    by_cases hDi : bit D i = true
    · exact ⟨j :: js, D, tm, h, own, inv, hp, hg, .inl hDi⟩
    have hDi : bit D i = false := by simpa using hDi
    obtain ⟨q, hq, hat, hrest⟩ := okPlan_cons hp
    obtain ⟨k1, k2, k3, k4, k5⟩ := okAt_sound hat
    cases hw : isWr P q with
    | true =>
      have hij : i = j := by
        by_cases hij : i = j
        · exact hij
        · have := (k5 hw).1 i o ho hij hDi
          have hrd : readyB D o = true := by unfold readyB; rw [List.all_eq_true]; exact fun e he => inv.sub e (hpS e he)
          rw [hrd] at this; cases this
      subst hij
      rw [ho] at hq; cases hq
      exact ⟨i :: js, D, tm, h, own, inv, hp, hg, .inr ⟨hw, js, rfl⟩⟩
    | false =>
      rw [hw] at hrest hat
      simp only at hrest
      unfold runPlan at hg
      rw [Array.getElem?_toList, hq] at hg
      simp only [hw] at hg
      obtain ⟨tm', h', own', inv', hg'⟩ := inv.advance hfl hok hq k1 k2 k4 hw hg
      exact ih _ M tm' h' own' inv' hrest hg'

theorem planAny (hfl : ¬ good fl) (hp : PrimsOk good pr P) {rec : Rec β} (hrec : RunOk good P rec) (hok : ∀ q ∈ ops.toList, operOk nt q = true) (hidx : ∀ i o, ops[i]? = some o → ∀ e ∈ predsOf o, e < i)
    (hQ : ∀ tm' h' φ' a' w', good (κ tm' h') → TR φ' nt tm' a' → HR P φ' h' w' → Ext φ0 φ' h0 h' w0 w' → a'.defers = ds → Q .normal a' w') :
    ∀ (fuel : Nat) (listed : Array Bool) (l : List Nat) (D M : Nat) (tm : T Value) (h : Heap) (own : Nat → Option Nat) (φ : Emb) (a : Act) (w : World), listed.toList.count false ≤ fuel → Inv P ops nt φ0 h0 w0 ds listed D M tm h own φ a w →
      okPlan P ops.toList l D M = true → good (runPlan fl pr P rec ops.toList l D M tm h κ) → wpAnyIn (FR r0) 0 P .any ops Q fuel listed a w := by
  -- the end
  have fin : ∀ (listed : Array Bool) (l : List Nat) (D M : Nat) (tm : T Value) (h : Heap) (own : Nat → Option Nat) (φ : Emb) (a : Act) (w : World), Inv P ops nt φ0 h0 w0 ds listed D M tm h own φ a w →
      okPlan P ops.toList l D M = true → good (runPlan fl pr P rec ops.toList l D M tm h κ) → Region.ready .any ops listed = [] → Q .normal a w := by
    intro listed l D M tm h own φ a w inv hpl hg hr
    have hall := all_in inv hidx hr
    cases l with
    | nil => exact hQ tm h φ a w hg (inv.full hall) inv.hr inv.ext inv.dfs
    | cons j js =>
      obtain ⟨q, hq, hat, _⟩ := okPlan_cons hpl
      have := (okAt_sound hat).1
      rw [inv.sub j (hall j q hq)] at this; cases this
  intro fuel
  induction fuel with
  | zero =>
    intro listed l D M tm h own φ a w hc inv hpl hg
    have hr : Region.ready .any ops listed = [] := by
      cases hr : Region.ready .any ops listed with
      | nil => rfl
      | cons i is =>
        obtain ⟨o, ho, hnS, _⟩ := ready_mem (listed := listed) (ops := ops) (i := i) (by rw [hr]; exact List.mem_cons_self)
        have hlt : i < listed.size := by rw [inv.lsz]; exact (Array.getElem?_eq_some_iff.mp ho).1
        have : false ∈ listed.toList := by
          unfold inS at hnS
          simp only [Array.getD_eq_getD_getElem?, getElem?_pos listed i hlt, Option.getD_some] at hnS
          have : listed[i] = false := by simpa using hnS
          rw [← this]
          exact Array.getElem_mem_toList hlt
        have := List.count_pos_iff.mpr this
        omega
    exact ⟨hr, fin listed l D M tm h own φ a w inv hpl hg hr⟩
  | succ fuel ih =>
    intro listed l D M tm h own φ a w hc inv hpl hg
    refine ⟨fin listed l D M tm h own φ a w inv hpl hg, fun i hi => ?_⟩
    obtain ⟨o, ho, hnS, hpS⟩ := ready_mem hi
    have hlt : i < listed.size := by rw [inv.lsz]; exact (Array.getElem?_eq_some_iff.mp ho).1
    have hcnt : (listed.setIfInBounds i true).toList.count false ≤ fuel := by
      have hfi : listed.toList[i]'(by simpa using hlt) = false := by
        unfold inS at hnS
        simp only [Array.getD_eq_getD_getElem?, getElem?_pos listed i hlt, Option.getD_some] at hnS
        simpa using hnS
      rw [Array.toList_setIfInBounds, List.count_set (by simpa using hlt), hfi]
      change listed.toList.count false - 1 + 0 ≤ fuel
      omega
    obtain ⟨l', D', tm', h', own', inv', hpl', hg', hend⟩ := toOp hfl hok ho hnS hpS l D M tm h own inv hpl hg
    by_cases hDi : bit D' i = true
    · exact inv'.late hok ho hDi hnS hpS fun φ' a' w' inv2 => ih _ l' D' M tm' h' own' φ' a' w' hcnt inv2 hpl' hg'
    · rcases hend with hend | ⟨hw, js, rfl⟩
      · exact absurd hend hDi
      obtain ⟨q, hq, hat, hrest⟩ := okPlan_cons hpl'
      rw [ho] at hq; cases hq
      rw [hw] at hat hrest
      simp only at hat hrest
      obtain ⟨k1, k2, k3, k4, k5⟩ := okAt_sound hat
      unfold runPlan at hg'
      rw [Array.getElem?_toList, ho] at hg'
      simp only [hw] at hg'
      refine inv'.write hfl hp hrec hok ho k1 hpS k4 hw ?_ (k5 hw).2 hg' fun tm2 h2 φ2 a2 w2 inv2 hg2 => ih _ js _ _ tm2 h2 own' φ2 a2 w2 hcnt inv2 hrest hg2
      intro k hk
      rw [bit_or, Bool.or_eq_true] at hk
      rcases hk with hk | hk
      · exact inv'.mS k hk
      · exact ancOf_bits (S := inS listed) (os := ops.toList) (fun j q hq hj => inv'.clo j q (by rw [← Array.getElem?_toList]; exact hq) hj) (by rw [Array.getElem?_toList]; exact ho) hpS k hk
end

theorem draw_sound (hfl : ¬ good fl) (hp : PrimsOk good pr P) (hm : P.follows .mixedOrders = true) : DrawOk good fl pr P := by
  intro rec hrec ops id nt hok φ tm h a w κ ht hr hg r0 Q hQ
  unfold runRegion at hg
  split at hg
  · contradiction
  split at hg
  · rename_i l hl
    unfold planOf at hl
    split at hl <;> try contradiction
    split at hl <;> try contradiction
    rename_i hok2
    cases hl
    simp only [Bool.and_eq_true] at hok2
    refine wpIn_region_any hm ?_
    have hemp : ∀ i, ¬ inS (Array.replicate ops.size false) i := by
      intro i hi
      unfold inS at hi
      simp only [Array.getD_eq_getD_getElem?, Array.getElem?_replicate] at hi
      split at hi <;> simp at hi
    refine planAny (φ0 := φ) (h0 := h) (w0 := w) (ds := a.defers) hfl hp hrec hok ?_ hQ ops.size _ l 0 0 tm h (fun _ => none) φ a { w with drawn := w.drawn + 1 } ?_ ?_ hok2.1 hg
    · intro i o ho e he
      have := hok2.2
      rw [List.all_eq_true] at this
      have := this _ (mem0 ho)
      simp only [List.all_eq_true] at this
      exact lt_of_ble (this e he)
    · refine Nat.le_trans List.count_le_length (by simp)
    · have nb : ∀ k, bit 0 k = true → False := fun k hb => by rw [bit_zero] at hb; cases hb
      exact ⟨by simp, fun i hi => absurd hi (hemp i), fun i o _ hi => absurd hi (hemp i), fun i o _ hb => (nb i hb).elim, fun i hb => (nb i hb).elim, fun i o _ hb => (nb i hb).elim,
        ht.small, ht.size, fun t hlt _ => ht.rel t hlt, hr.drew, (Ext.refl φ h w).drew, rfl, fun i o _ hb => (nb i hb).elim⟩
  · exact absurd hg hfl

end Go.Vai
