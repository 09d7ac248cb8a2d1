/-
  PROVED HERE: a part of an interpreter for the model's code, and that it is sound.
  The interpreter: a function that writes no block that lay before, and answers the same in whatever order its maps are ranged over, is one step.
-/
import Derived.Test.YtphbjimlpemadaaVaiS18
set_option linter.unusedVariables false
set_option linter.unusedSimpArgs false
namespace Go.Vai
open Go
variable {β : Type} {fl : β} {good : β → Prop} {P : Program} {φ : Emb} {h : Heap} {w : World}

/-- what such a call hands back: a value, or a slice of a block of its own; and how far the blocks' numbers have come -/
inductive PRes where
  | bad
  | val (v : Value) (nx : Nat)
  | row (n off cap : Nat) (e : TypeId) (op : Bool) (cs : List Value) (nx : Nat)

noncomputable def maxK (a b : Nat) (κ : Nat → PRes) : PRes := match Nat.ble a b with | true => κ b | false => κ a
noncomputable def bothP (x y : PRes) : PRes :=
  match x, y with
  | .val v a, .val v' b => match veq 8 v v' with
    | true => maxK a b fun n => .val v n
    | false => .bad
  | .row n o c e op cs a, .row n' o' c' e' op' cs' b => match Nat.beq n n' && Nat.beq o o' && Nat.beq c c' && Nat.beq e e' && (op == op') && veqL (veq 8) cs cs' with
    | true => maxK a b fun nx => .row n o c e op cs nx
    | false => .bad
  | _, _ => .bad

/-- the end of such a call -/
noncomputable def endP (nx0 : Nat) (v : Value) (h : Heap) : PRes :=
  match v with
  | .slice (some ⟨b, o, none⟩) n cap => match Nat.ble nx0 b && !Nat.beq cap anyCap with
    | true => match h.bl.get b with
      | some (.cells nn c e op) => loadN .bad c 0 nn [] fun l => .row n o cap e op l h.nx
      | _ => .bad
    | false => .val v h.nx
  | v => .val v h.nx

noncomputable def pureB (fl : β) (pr : Prims PRes) (P : Program) (fuel : Nat) (f : FuncId) (args : List Value) (h : Heap) (κ : Value → Heap → β) : β :=
  match callF .bad pr P (run .bad pr P fuel) f args ⟨h.nx, h.bl, h.nx⟩ (endP h.nx) with
  | .bad => fl
  | .val v nx => match Nat.ble nx 1000000000000 with
    | true => κ v ⟨nx, h.bl, h.lo⟩
    | false => fl
  | .row n o cap e op cs nx => match Nat.ble nx 1000000000000, Nat.ble cs.length 1000000000000 with
    | true, true => layN cs .nil 0 fun c m => T.set h.bl nx (.cells m c e op) fun bl => fnK (Nat.succ nx) fun nx' => κ (.slice (some ⟨nx, o, none⟩) n cap) ⟨nx', bl, h.lo⟩
    | _, _ => fl

def goodP : PRes → PRes → Prop
  | .bad => fun _ => False
  | .val v N => fun r => ∃ nx, r = .val v nx ∧ nx ≤ N
  | .row n o c e op cs N => fun r => ∃ nx, r = .row n o c e op cs nx ∧ nx ≤ N

theorem goodP_bad (r0 : PRes) : ¬ goodP r0 .bad := by
  intro hh
  cases r0 <;> first | exact hh.elim | (obtain ⟨m, e1, _⟩ := hh; cases e1)

theorem maxK_eq (a b : Nat) (κ : Nat → PRes) : ∃ n, maxK a b κ = κ n ∧ a ≤ n ∧ b ≤ n := by
  unfold maxK
  cases hb : Nat.ble a b with
  | true => exact ⟨b, rfl, ble_t hb, Nat.le_refl _⟩
  | false => exact ⟨a, rfl, Nat.le_refl _, by have := ble_f hb; omega⟩

theorem bothP_good (r0 x y : PRes) (hg : goodP r0 (bothP x y)) : goodP r0 x ∧ goodP r0 y := by
  unfold bothP at hg
  split at hg
  · rename_i v a v' b
    split at hg
    · rename_i hv
      have hv := veq_eq 8 _ _ hv
      subst hv
      obtain ⟨n, e, h1, h2⟩ := maxK_eq a b fun n => .val v n
      rw [e] at hg
      cases r0 with
      | bad => exact hg.elim
      | val u N =>
        obtain ⟨m, e1, e2⟩ := hg
        cases e1
        exact ⟨⟨a, rfl, by omega⟩, ⟨b, rfl, by omega⟩⟩
      | row => obtain ⟨m, e1, e2⟩ := hg; cases e1
    · cases r0 <;> first | exact hg.elim | (obtain ⟨m, e1, _⟩ := hg; cases e1)
  · rename_i n o c e op cs a n' o' c' e' op' cs' b
    split at hg
    · rename_i hv
      simp only [Bool.and_eq_true] at hv
      obtain ⟨⟨⟨⟨⟨h1, h2⟩, h3⟩, h4⟩, h5⟩, h6⟩ := hv
      have h1 := beq_t h1; have h2 := beq_t h2; have h3 := beq_t h3; have h4 := beq_t h4
      have h5 : op = op' := by simpa using h5
      have h6 := veqL_eq (veq_eq 8) _ _ h6
      subst h1; subst h2; subst h3; subst h4; subst h5; subst h6
      obtain ⟨m, e0, k1, k2⟩ := maxK_eq a b fun nx => .row n o c e op cs nx
      rw [e0] at hg
      cases r0 with
      | bad => exact hg.elim
      | val => obtain ⟨m, e1, e2⟩ := hg; cases e1
      | row =>
        obtain ⟨m, e1, e2⟩ := hg
        cases e1
        exact ⟨⟨a, rfl, by omega⟩, ⟨b, rfl, by omega⟩⟩
    · cases r0 <;> first | exact hg.elim | (obtain ⟨m, e1, _⟩ := hg; cases e1)
  · cases r0 <;> first | exact hg.elim | (obtain ⟨m, e1, _⟩ := hg; cases e1)

/-- what lay before lies as it lay -/
theorem HR.behind {φ' : Emb} {h' : Heap} {w' : World} (hr : HR P φ h w) (hr' : HR P φ' h' w') (hx : Ext φ φ' ⟨h.nx, h.bl, h.nx⟩ h' w w') {nx : Nat} (hn : h'.nx ≤ nx) (hs : nx ≤ 1000000000000) :
    HR P φ' ⟨nx, h.bl, h.lo⟩ w' ∧ Ext φ φ' h ⟨nx, h.bl, h.lo⟩ w w' := by
  have hnx : h.nx ≤ h'.nx := hx.nx
  have same : ∀ b o pl, h.bl.get b = some o → φ' b = some pl → b < h.nx ∧ h'.bl.get b = some o := by
    intro b o pl hb hp
    have h1 := (hr'.dom b pl hp).1
    have hlt := hr.keys b o (by unfold Small; omega) hb
    exact ⟨hlt, by rw [hx.frL b hlt]; exact hb⟩
  refine ⟨⟨?_, ?_, ?_, ?_, ?_, ?_⟩, ⟨hx.sub, hx.new, Nat.le_trans hnx hn, hx.size, hx.frC, fun _ _ _ => rfl, hx.tape, hx.os, hx.output, hx.fz, rfl, fun _ _ => rfl⟩⟩
  · intro b o pl hb hp; exact hr'.obj b o pl (same b o pl hb hp).2 hp
  · intro b pl hp; have := hr'.dom b pl hp; exact ⟨Nat.lt_of_lt_of_le this.1 hn, this.2⟩
  · intro b o hsb hb; exact Nat.lt_of_lt_of_le (hr.keys b o hsb hb) (Nat.le_trans hnx hn)
  · show nx < 2 ^ 199; omega
  · intro b b' o o' pl pl' g1 g2 l1 l2 p1 p2 e
    exact hr'.inj b b' o o' pl pl' (same b o pl g1 p1).2 (same b' o' pl' g2 p2).2 l1 l2 p1 p2 e
  · exact Nat.le_trans hr.lo (Nat.le_trans hnx hn)

/-- and a block of the call's own gets a name -/
theorem HR.behindRow {φ' : Emb} {h' : Heap} {w' : World} (hr : HR P φ h w) (hr' : HR P φ' h' w') (hx : Ext φ φ' ⟨h.nx, h.bl, h.nx⟩ h' w w') {nx : Nat} (hn : h'.nx ≤ nx) (hs : nx ≤ 1000000000000)
    {b nn e : Nat} {c : T Value} {op : Bool} {pl : Pl} (hb : h'.bl.get b = some (.cells nn c e op)) (hp : φ' b = some pl) (hnb : h.nx ≤ b) {cs : List Value} (hl : cs.length = nn) (hls : nn ≤ 1000000000000) (hc : ∀ j v, cs[j]? = some v → c.get j = some v) :
    HR P (addPl φ' nx pl) ⟨nx + 1, h.bl.upd nx (.cells nn (lay cs .nil 0) e op), h.lo⟩ w' ∧ Ext φ (addPl φ' nx pl) h ⟨nx + 1, h.bl.upd nx (.cells nn (lay cs .nil 0) e op), h.lo⟩ w w' := by
  obtain ⟨hr1, hx1⟩ := hr.behind hr' hx hn hs
  have hnx : h.nx ≤ h'.nx := hx.nx
  have hnone : φ' nx = none := by
    cases hq : φ' nx with
    | none => rfl
    | some p => have := (hr'.dom _ _ hq).1; omega
  have hsub := addPl_sub (pl := pl) hnone
  have hsn : Small nx := by unfold Small; omega
  have get_ne : ∀ x, x < nx → (h.bl.upd nx (.cells nn (lay cs .nil 0) e op)).get x = h.bl.get x := fun x hx => T.get_upd_ne _ _ hsn (by unfold Small; omega) (by omega)
  obtain ⟨C, hC, k1, k2, k3, k4⟩ := hr'.rowAt hb hp
  have hOR : OR P φ' (.cells nn (lay cs .nil 0) e op) pl w'.heap[pl.B]? := by
    rw [hC]
    refine ⟨rfl, rfl, k1, k2, k3, fun i v hg hi => ?_⟩
    rw [get_lay cs .nil 0 (by omega) i (by unfold Small; omega), if_pos (by omega)] at hg
    exact k4 i v (hc i v (by simpa using hg)) hi
  have alone : ∀ x o px, x < nx → h.bl.get x = some o → o.live → φ' x = some px → px.B ≠ pl.B := by
    intro x o px hxn hx0 hlv hpx hB
    have hlt := hr.keys x o (by unfold Small; omega) hx0
    have := hr'.inj x b o _ px pl (by rw [hx.frL x hlt]; exact hx0) hb hlv trivial hpx hp hB
    omega
  constructor
  · refine ⟨?_, ?_, ?_, ?_, ?_, Nat.le_succ_of_le hr1.lo⟩
    · intro x o px hx0 hpx
      unfold addPl at hpx
      split at hpx
      · rename_i he; subst he; cases hpx
        rw [T.get_upd_same] at hx0; cases hx0
        exact hOR.mono hsub
      · have hxn := (hr1.dom x px hpx).1
        exact (hr1.obj x o px ((get_ne x hxn) ▸ hx0) hpx).mono hsub
    · intro x px hpx
      unfold addPl at hpx
      split at hpx
      · rename_i he; subst he; cases hpx; exact ⟨Nat.lt_succ_self _, (hr'.dom b pl hp).2⟩
      · have := hr1.dom x px hpx; exact ⟨Nat.lt_succ_of_lt this.1, this.2⟩
    · intro x o hsx hx0
      show x < nx + 1
      rw [T.get_upd _ _ hsn hsx] at hx0
      split at hx0
      · omega
      · have := hr1.keys x o hsx hx0; exact Nat.lt_succ_of_lt this
    · show nx + 1 < 2 ^ 199; omega
    · intro x x' o1 o2 p1 p2 g1 g2 l1 l2 e1 e2 eB
      unfold addPl at e1 e2
      split at e1 <;> split at e2
      · omega
      · rename_i q1 q2; cases e1
        have hxn := (hr1.dom x' p2 e2).1
        exact absurd eB.symm (alone x' o2 p2 hxn ((get_ne x' hxn) ▸ g2) l2 e2)
      · rename_i q1 q2; cases e2
        have hxn := (hr1.dom x p1 e1).1
        exact absurd eB (alone x o1 p1 hxn ((get_ne x hxn) ▸ g1) l1 e1)
      · have n1 := (hr1.dom x p1 e1).1
        have n2 := (hr1.dom x' p2 e2).1
        exact hr1.inj x x' o1 o2 p1 p2 ((get_ne x n1) ▸ g1) ((get_ne x' n2) ▸ g2) l1 l2 e1 e2 eB
  · refine ⟨hx1.sub.trans hsub, ?_, Nat.le_succ_of_le hx1.nx, hx1.size, hx1.frC, ?_, hx1.tape, hx1.os, hx1.output, hx1.fz, rfl, ?_⟩
    · intro x px e0 e1
      unfold addPl at e1
      split at e1
      · rename_i he; subst he; cases e1
        refine ⟨hx1.nx, ?_⟩
        cases h0 : φ b with
        | some p =>
          have := (hr.dom b p h0).1
          omega
        | none => exact (hx.new b pl h0 hp).2
      · exact hx1.new x px e0 e1
    · intro x hx0 _
      exact get_ne x (Nat.lt_of_lt_of_le hx0 hx1.nx)
    · intro x hx0
      exact get_ne x (Nat.lt_of_lt_of_le hx0 hr1.lo)

theorem pureB_sound (hfl : ¬ good fl) (hm : P.follows .mixedOrders = true) {pr : Prims PRes} (hp : ∀ r0, PrimsOk (goodP r0) pr P) {fuel : Nat} {f : FuncId} (hr : HR P φ h w) {args args' : List Value} (ha : F2 (VR φ) args args')
    {κ : Value → Heap → β} (hg : good (pureB fl pr P fuel f args h κ)) : CallTo good P φ h w κ f args'.toArray := by
  have hb := goodP_bad
  have hrF : HR P φ ⟨h.nx, h.bl, h.nx⟩ w := ⟨hr.obj, hr.dom, hr.keys, hr.nxs, hr.inj, Nat.le_refl _⟩
  have key : ∀ r0, goodP r0 (callF .bad pr P (run .bad pr P fuel) f args ⟨h.nx, h.bl, h.nx⟩ (endP h.nx)) → CallTo (goodP r0) P φ ⟨h.nx, h.bl, h.nx⟩ w (endP h.nx) f args'.toArray := fun r0 hk =>
    callF_sound (hb r0) (hp r0) (run_sound (hb r0) (hp r0) (draw_sound (hb r0) (hp r0) hm) fuel).1 ha hrF hk
  unfold pureB at hg
  split at hg
  · exact absurd hg hfl
  · rename_i v nx he
    split at hg <;> try exact absurd hg hfl
    rename_i hle; have hle := ble_t hle
    have hk := key (.val v nx) (by rw [he]; exact ⟨nx, rfl, Nat.le_refl _⟩)
    refine ⟨hk.1, Calls.mono hk.2 ?_⟩
    rintro e w' ⟨φ', v1, v1', h', rfl, g1, g2, g3, g4⟩
    have hv : v1 = v ∧ h'.nx ≤ nx := by
      obtain ⟨m, e1, e2⟩ := g1
      unfold endP at e1
      split at e1
      · split at e1
        · split at e1
          · rename_i nn c e op _
            obtain ⟨l, k1, _, _⟩ := loadN_good (fl := PRes.bad) (good := fun r => r = .val v m) (by simp) _ _ _ _ _ e1
            cases k1
          · cases e1
        · cases e1; exact ⟨rfl, e2⟩
      · cases e1; exact ⟨rfl, e2⟩
    obtain ⟨rfl, hn⟩ := hv
    obtain ⟨q1, q2⟩ := hr.behind g3 g4 hn hle
    exact ⟨φ', _, _, _, rfl, hg, g2, q1, q2⟩
  · rename_i n o cap e op cs nx he
    split at hg <;> try exact absurd hg hfl
    rename_i hle hll; have hle := ble_t hle; have hll := ble_t hll
    rw [layN_eq, T.set_eq, fnK_eq, Nat.zero_add] at hg
    have hk := key (.row n o cap e op cs nx) (by rw [he]; exact ⟨nx, rfl, Nat.le_refl _⟩)
    refine ⟨hk.1, Calls.mono hk.2 ?_⟩
    rintro e2 w' ⟨φ', v1, v1', h', rfl, g1, g2, g3, g4⟩
    obtain ⟨m, e1, em⟩ := g1
    unfold endP at e1
    split at e1
    · rename_i b o1 n1 cap1
      split at e1
      · rename_i hcond
        simp only [Bool.and_eq_true] at hcond
        have hnb := ble_t hcond.1
        have hany : cap1 ≠ anyCap := by
          have := hcond.2
          intro hh; subst hh
          simp [Nat.beq_refl] at this
        split at e1
        · rename_i nn c e3 op3 hbb
          obtain ⟨l, k1, k2, k3⟩ := loadN_good (fl := PRes.bad) (good := fun r => r = .row n o cap e op cs m) (by simp) _ _ _ _ _ e1
          simp only [List.append_nil] at k1
          cases k1
          have hcs : ∀ j v, cs[j]? = some v → c.get j = some v := fun j v hj => by have := k3 j v hj; simpa using this
          cases g2 with
          | slice hpp hn hc =>
            obtain ⟨q1, q2⟩ := hr.behindRow g3 g4 em hle hbb hpp hnb k2 (by rw [← k2]; exact hll) hcs
            rw [k2] at hg
            exact ⟨_, _, _, _, rfl, hg, .slice (addPl_same _ _ _) hn hc, q1, q2⟩
          | sliceOpen hpp hn hc =>
            obtain ⟨q1, q2⟩ := hr.behindRow g3 g4 em hle hbb hpp hnb k2 (by rw [← k2]; exact hll) hcs
            rw [k2] at hg
            exact ⟨_, _, _, _, rfl, hg, .sliceOpen (addPl_same _ _ _) hn hc, q1, q2⟩
          | sliceAny => exact absurd rfl hany
        · cases e1
      · cases e1
    · cases e1
end Go.Vai
