/-
  PROVED HERE: a part of the proof, by a calculus of weakest conditions over an abstract heap (VaiS10, VaiS11, VaiS12, VaiS13, VaiS14, VaiS15, VaiS16, VaiS17, VaiS18, VaiK).
-/
import Derived.Test.YtmfinibgeafebaaGreatDoorH1
import Derived.Laws.Small
import Derived.Laws.IdiomStrings
import Derived.Laws.BytesArg
import Derived.Test.YtmfinibgeafebaaGreatDoorH0
import Derived.OrdersIn
import Derived.RangeFuncRecord
import Derived.RowKit3
import Derived.ChangeSame
import Derived.Below
set_option linter.unusedVariables false
set_option linter.unusedSimpArgs false
namespace Go.Vai
open Go
variable {β : Type} {fl : β} {good : β → Prop} {P : Program} {φ : Emb} {h : Heap} {w : World} {t : TypeId}

theorem run_skipped {s : Sem Unit} {w' : World} (hs : s.run P w = .ok () w') : ((do s; pure Next.skip : Sem Next)).run P w = .ok .skip w' := by simp [hs]

theorem clearB_map_sound (hfl : ¬ good fl) {kt et : TypeId} {ty : TypeId} {ts : Array TypeId} (ht : ts[0]? = some t) (hu : P.underlying t = some (.map kt et)) (hr : HR P φ h w)
    {m : Option Nat} {x' : Value} {κ : Value → Heap → β} (hg : good (clearB fl [] (.map m) h κ)) (hx : VR φ (.map m) x') :
    ∃ h' w', good (κ (.tuple #[]) h') ∧ HR P φ h' w' ∧ Ext φ φ h h' w w' ∧ (Builtin.clear_ ts ty #[x']).run P w = .ok (.tuple #[]) w' := by
  cases m with
  | none =>
    cases hx
    exact ⟨h, w, by simpa [clearB] using hg, hr, Ext.refl _ _ _, by simp [Builtin.clear_, ht, run_und hu]⟩
  | some r =>
    simp only [clearB] at hg
    split at hg <;> try exact absurd hg hfl
    rename_i es clock hb
    obtain ⟨hlo, hg⟩ := setBlock_good hfl hg
    cases hx with
    | map hp =>
      rename_i pl
      obtain ⟨es', hO, h2⟩ := hr.mapAt hb hp
      obtain ⟨w', j1, j2, j3⟩ := hr.mapSet hlo (es1 := []) (es1' := #[]) (clock' := clock) hb hp .nil
      exact ⟨_, w', hg, j2, j3, by simp [Builtin.clear_, ht, run_und hu, run_getMap hO, j1]⟩

theorem bytesK_eq (bs : List UInt8) (κ : List Value → β) : bytesK bs κ = κ (bs.map fun b => .int .u8 (.ofNat b.toNat)) := by
  induction bs generalizing κ with
  | nil => rfl
  | cons b bs ih => simp only [bytesK, fnK_eq, ih, List.map_cons]

theorem u8K_good (hfl : ¬ good fl) : ∀ (l : List Value) (κ : List UInt8 → β), good (u8K fl l κ) → ∃ ns : List Int, l = ns.map (Value.int .u8) ∧ good (κ (ns.map fun n => UInt8.ofNat n.toNat)) := by
  intro l
  induction l with
  | nil => intro κ hg; exact ⟨[], rfl, hg⟩
  | cons v l ih =>
    intro κ hg
    unfold u8K at hg
    split at hg
    · rename_i e; cases e
    · rename_i n l2 e
      cases e
      obtain ⟨ns, rfl, g⟩ := ih _ hg
      exact ⟨(n : Int) :: ns, rfl, g⟩
    · exact absurd hg hfl
theorem F2.u8 : ∀ {ns : List Int} {l' : List Value}, F2 (VR φ) (ns.map (Value.int .u8)) l' → l' = ns.map (Value.int .u8) := by
  intro ns
  induction ns with
  | nil => intro l' h; cases h; rfl
  | cons n ns ih =>
    intro l' h
    cases h with
    | cons h t => cases h; rw [ih t]; rfl

set_option maxHeartbeats 2000000 in
theorem compW_sound (hfl : ¬ good fl) {both : β → β → β} (hboth : ∀ x y, good (both x y) → good x ∧ good y) {op : Op} {i : XI β} (hc : compW fl both P op = some i) {tm : T Value} {ρ : Operand → Value} (hρ : ∀ y ∈ op.operands.toList, VR φ (evv tm y) (ρ y)) (hr : HR P φ h w)
    {κ : Value → Heap → β} (hg : good (i.run tm h κ)) {o : Oper} (ho : o.op = op) : WOut good P φ h w κ ((execOp ρ o).run P w) := by
  have unit : ∀ {s : Sem Unit}, (∃ h' w', good (κ undef h') ∧ HR P φ h' w' ∧ Ext φ φ h h' w w' ∧ s.run P w = .ok () w') → execOp ρ o = (do s; pure Next.skip) →
      WOut good P φ h w κ ((execOp ρ o).run P w) := by
    intro s ⟨h', w', g1, g2, g3, g4⟩ e
    exact ⟨φ, undef, undef, h', w', .skip, g1, VR.undef, g2, g3, by rw [e]; exact run_skipped g4, .inr ⟨rfl, rfl⟩⟩
  have val : ∀ {s : Sem Value}, (∃ φ' v v' h' w', good (κ v h') ∧ VR φ' v v' ∧ HR P φ' h' w' ∧ Ext φ φ' h h' w w' ∧ s.run P w = .ok v' w') → execOp ρ o = (do pure (Next.value (← s))) →
      WOut good P φ h w κ ((execOp ρ o).run P w) := by
    intro s ⟨φ', v, v', h', w', g1, g2, g3, g4, g5⟩ e
    exact ⟨φ', v, v', h', w', .value v', g1, g2, g3, g4, by rw [e]; exact run_valued g5, .inl rfl⟩
  cases op <;> simp only [compW] at hc <;> try (cases hc; done)
  case store t a x =>
    split at hc <;> try (cases hc; done)
    rename_i s hs
    cases hc; rw [XI.run_k2] at hg
    exact unit (storeV_sound hfl hs hr hg (hρ a (by simp [Op.operands])) (hρ x (by simp [Op.operands]))) (by simp only [execOp, ho])
  case mapUpdate t m k x =>
    split at hc <;> try (cases hc; done)
    rename_i kt et hu
    cases hc; rw [XI.run_k3] at hg
    exact unit (mapUpdateB_sound hfl hu hr hg (hρ m (by simp [Op.operands])) (hρ k (by simp [Op.operands])) (hρ x (by simp [Op.operands]))) (by simp only [execOp, ho])
  case insert t m k x =>
    split at hc <;> try (cases hc; done)
    rename_i kt et hu
    cases hc; rw [XI.run_k3] at hg
    exact unit (mapUpdateB_sound hfl hu hr hg (hρ m (by simp [Op.operands])) (hρ k (by simp [Op.operands])) (hρ x (by simp [Op.operands]))) (by simp only [execOp, ho])
  case range t x =>
    split at hc <;> try (cases hc; done)
    rename_i kt et hu
    cases hc; rw [XI.run_k1] at hg
    exact val (rangeB_sound hfl hu hr hg (hρ x (by simp [Op.operands]))) (by simp only [execOp, ho])
  case entry it =>
    cases hc; rw [XI.run_k1] at hg
    obtain ⟨v, v', g1, g2, g3⟩ := entryB_sound hfl hr hg (hρ it (by simp [Op.operands]))
    exact val ⟨φ, v, v', h, w, g1, g2, hr, Ext.refl _ _ _, g3⟩ (by simp only [execOp, ho])
  case convert src dst x =>
    split at hc <;> try (cases hc; done)
    · rename_i e hus hud
      split at hc <;> try (cases hc; done)
      rename_i hue hsz
      cases hc; rw [XI.run_k1] at hg
      have hxv := hρ x (by simp [Op.operands])
      unfold strBytes at hg
      split at hg <;> try exact absurd hg hfl
      rename_i s hx
      rw [hx] at hxv
      generalize hy : ρ x = y at hxv
      cases hxv
      rw [bytesK_eq, layN_eq, Nat.zero_add] at hg
      split at hg <;> try exact absurd hg hfl
      rename_i hle; have hle := ble_t hle
      obtain ⟨hn, hg⟩ := newBlock_good hfl hg
      have hlen : (s.data.toList.map fun b => Value.int .u8 (.ofNat b.toNat)).length = s.size := by rw [List.length_map, Array.length_toList]; rfl
      rw [hlen] at hg hle
      have hcap : s.size ≤ grownCap w s.size 0 e := cut_ge _
      have hrow : (bytesRow s (grownCap w s.size 0 e)).size = grownCap w s.size 0 e := by
        simp only [bytesRow, Array.size_append, Array.size_map, Array.size_replicate]
        show s.size + _ = _
        omega
      have hOR : OR P φ (.ro s.size (lay (s.data.toList.map fun b => Value.int .u8 (.ofNat b.toNat)) .nil 0) e) ⟨w.drew.heap.size, grownCap w s.size 0 e, 1⟩
          (some (.cells (bytesRow s (grownCap w s.size 0 e)) e ((bytesRow s (grownCap w s.size 0 e)).size, (bytesRow s (grownCap w s.size 0 e)).size + 1))) := by
        refine ⟨rfl, by rw [hrow]; exact hcap, fun i v hget hi => ?_⟩
        rw [get_lay _ .nil 0 (by rw [hlen]; omega) i (by unfold Small; omega), if_pos (by rw [hlen]; omega)] at hget
        simp only [Nat.sub_zero, List.getElem?_map] at hget
        have hi2 : i < s.data.size := hi
        refine ⟨v, ?_, ?_⟩
        · simp only [bytesRow]
          rw [Array.getElem?_append_left (by simpa using hi2), Array.getElem?_map, ← Array.getElem?_toList]
          exact hget
        · cases hq : s.data.toList[i]? with
          | none => rw [hq] at hget; cases hget
          | some b => rw [hq] at hget; cases hget; exact .int _ _
      obtain ⟨m1, m2⟩ := hr.drew.fresh hn (grownCap w s.size 0 e) 1 hOR trivial
      refine val (s := convert src dst (ρ x)) ⟨_, _, _, _, _, hg, .sliceOpen (addPl_same _ _ _) hcap (by simp), m1, m2.ofDrew, ?_⟩ (by simp only [execOp, ho])
      rw [hy]
      exact run_bytes_of_string w src dst e s hus hud hue
    · rename_i e hus hud
      split at hc <;> try (cases hc; done)
      rename_i hue
      cases hc; rw [XI.run_k1] at hg
      have hxv := hρ x (by simp [Op.operands])
      unfold bytesStr at hg
      split at hg <;> try exact absurd hg hfl
      rename_i a n c hx
      rw [hx] at hxv
      obtain ⟨l, l', g1, g2, g3, g4⟩ := firstB_sound hfl hr hg hxv ⟨_, _, _, rfl, Nat.le_refl _⟩
      obtain ⟨ns, rfl, g5⟩ := u8K_good hfl _ _ g1
      have hl' := F2.u8 g2
      subst hl'
      have g4 := g4 w rfl
      refine val (s := convert src dst (ρ x)) ⟨φ, _, _, h, w, g5, .string _, hr, Ext.refl _ _ _, ?_⟩ (by simp only [execOp, ho])
      generalize hy : ρ x = y at hxv g4
      have fin : ∀ (a : Addr) (c : Nat), (loadCells a n).run P w = .ok (ns.map (Value.int .u8)).toArray w → (convert src dst (.slice (some a) n c)).run P w = .ok (.string ⟨⟨ns.map fun n => UInt8.ofNat n.toNat⟩⟩) w := by
        intro a c hl
        rw [run_convert_bytes_string w src dst e _ n c hus hue hud, run_bytesToString w a n c ns hl, foldl_push_bytes]
        simp [ByteArray.empty, ByteArray.emptyWithCapacity]
        rfl
      cases hxv with
      | sliceNil hle =>
        have hn : ns = [] := by
          have := g4
          simp [Builtin.firstCells] at this
          simpa using this
        subst hn
        exact run_convert_bytes_nil w src e hus hue n c dst hud
      | slice hp hn hc => exact fin _ _ (by simpa [Builtin.firstCells] using g4)
      | sliceOpen hp hn hc => exact fin _ _ (by simpa [Builtin.firstCells] using g4)
      | sliceAny _ a' c => exact fin _ _ (by simpa [Builtin.firstCells] using g4)
      | sliceEnd a' hp hc => exact fin _ _ (by simpa [Builtin.firstCells] using g4)
  case call c =>
    obtain ⟨callee, args, ts⟩ := c
    cases callee <;> (try simp only at hc) <;> try (cases hc; done)
    rename_i b
    cases b <;> (try simp only at hc) <;> try (cases hc; done)
    case append =>
      split at hc <;> try contradiction
      rename_i s x _ hx
      have hargs : args = #[s, x] := Array.ext' (by simpa using hx)
      split at hc <;> try contradiction
      rename_i st xt ht hxt
      split at hc <;> try contradiction
      rename_i e hu
      split at hc <;> try contradiction
      rename_i inf xd hi hxd
      split at hc <;> try contradiction
      rename_i z size hz hby
      cases hc; rw [XI.run_k2] at hg
      exact val (appendB_sound (ty := o.type) hfl hboth ht hu hz hi (ble_t hby) hxt hxd hr hg (hρ s (by simp [Op.operands, Call.operands, hargs])) (hρ x (by simp [Op.operands, Call.operands, hargs])))
        (by simp [execOp, ho, resolve, invoke, builtin, hargs])
    case copy =>
      split at hc <;> try contradiction
      rename_i d x _ hx
      have hargs : args = #[d, x] := Array.ext' (by simpa using hx)
      split at hc <;> try contradiction
      rename_i t ht
      split at hc <;> try contradiction
      rename_i e hu
      split at hc <;> try contradiction
      rename_i s hs
      cases hc; rw [XI.run_k2] at hg
      obtain ⟨v, h', w', g⟩ := copyB_sound (ty := o.type) hfl ht hu hs hr hg (hρ d (by simp [Op.operands, Call.operands, hargs])) (hρ x (by simp [Op.operands, Call.operands, hargs]))
      exact val ⟨φ, v, v, h', w', g⟩ (by simp [execOp, ho, resolve, invoke, builtin, hargs])
    case clear =>
      split at hc <;> try contradiction
      rename_i x _ hx
      have hargs : args = #[x] := Array.ext' (by simpa using hx)
      have hxv : VR φ (evv tm x) (ρ x) := hρ x (by simp [Op.operands, Call.operands, hargs])
      split at hc <;> try contradiction
      rename_i t ht
      split at hc <;> try contradiction
      · rename_i e hu
        split at hc <;> try contradiction
        rename_i z hz
        cases hc; rw [XI.run_k1] at hg
        obtain ⟨h', w', g1, g2, g3, g4⟩ := clearB_slice_sound (ty := o.type) hfl ht hu hz hr hg hxv
        exact val ⟨φ, .tuple #[], .tuple #[], h', w', g1, VR.undef, g2, g3, g4⟩ (by simp [execOp, ho, resolve, invoke, builtin, hargs])
      · rename_i kt et hu
        cases hc; rw [XI.run_k1] at hg
        split at hg <;> try exact absurd hg hfl
        rename_i m hm
        rw [hm] at hxv
        obtain ⟨h', w', g1, g2, g3, g4⟩ := clearB_map_sound (ty := o.type) hfl ht hu hr hg hxv
        exact val ⟨φ, .tuple #[], .tuple #[], h', w', g1, VR.undef, g2, g3, g4⟩ (by simp [execOp, ho, resolve, invoke, builtin, hargs])
    case cap =>
      split at hc <;> try contradiction
      rename_i x _ hx
      have hargs : args = #[x] := Array.ext' (by simpa using hx)
      have hxv : VR φ (evv tm x) (ρ x) := hρ x (by simp [Op.operands, Call.operands, hargs])
      split at hc <;> try contradiction
      rename_i t ht
      split at hc <;> try contradiction
      rename_i e hu
      cases hc; rw [XI.run_k1] at hg
      have hex : execOp ρ o = (do pure (Next.value (← Builtin.cap_ ts o.type #[ρ x]))) := by simp [execOp, ho, resolve, invoke, builtin, hargs]
      split at hg <;> try exact absurd hg hfl
      rename_i a n c hv
      split at hg <;> try exact absurd hg hfl
      rename_i hle; have hle := ble_t hle
      rw [hv] at hxv
      obtain ⟨a', e3⟩ : ∃ a', ρ x = .slice a' n c := by
        generalize ρ x = z at hxv
        cases hxv with
        | sliceNil _ => exact ⟨_, rfl⟩
        | slice _ _ _ => exact ⟨_, rfl⟩
        | sliceOpen _ _ _ => exact absurd hle (by unfold openCap; omega)
        | sliceAny _ _ _ => exact absurd hle (by unfold anyCap; omega)
        | sliceEnd _ _ _ => exact absurd hle (by unfold endCap; omega)
      rw [e3] at hex
      exact val ⟨φ, _, _, h, w, hg, .int _ _, hr, Ext.refl _ _ _, by simp [Builtin.cap_, ht, run_und hu, goInt]⟩ hex
    case delete =>
      split at hc <;> try contradiction
      rename_i m k _ hx
      have hargs : args = #[m, k] := Array.ext' (by simpa using hx)
      split at hc <;> try contradiction
      rename_i t ht
      split at hc <;> try contradiction
      rename_i kt et hu
      cases hc; rw [XI.run_k2] at hg
      obtain ⟨h', w', g1, g2, g3, g4⟩ := deleteB_sound (ty := o.type) hfl ht hu hr hg (hρ m (by simp [Op.operands, Call.operands, hargs])) (hρ k (by simp [Op.operands, Call.operands, hargs]))
      exact val ⟨φ, .tuple #[], .tuple #[], h', w', g1, VR.undef, g2, g3, g4⟩ (by simp [execOp, ho, resolve, invoke, builtin, hargs])
    case min =>
      split at hc <;> try contradiction
      rename_i a b _ hx
      have hargs : args = #[a, b] := Array.ext' (by simpa using hx)
      have ha : VR φ (evv tm a) (ρ a) := hρ a (by simp [Op.operands, Call.operands, hargs])
      have hb : VR φ (evv tm b) (ρ b) := hρ b (by simp [Op.operands, Call.operands, hargs])
      cases hc; rw [XI.run_k2] at hg
      have hex : execOp ρ o = (do pure (Next.value (← Builtin.min_ ts o.type #[ρ a, ρ b]))) := by simp [execOp, ho, resolve, invoke, builtin, hargs]
      split at hg <;> try exact absurd hg hfl
      rename_i k x k' y e1 e2
      rw [e1] at ha; rw [e2] at hb
      have e3 : ρ a = .int k x := by generalize ρ a = z at ha; cases ha; rfl
      have e4 : ρ b = .int k' y := by generalize ρ b = z at hb; cases hb; rfl
      have hrun := run_min_int2 (P := P) (w := w) ts o.type k k' x y
      rw [e3, e4] at hex
      split at hg
      · rename_i hlt
        rw [iltB_eq, decide_eq_true_eq] at hlt
        rw [if_pos hlt] at hrun
        exact val ⟨φ, _, _, h, w, hg, .int _ _, hr, Ext.refl _ _ _, hrun⟩ hex
      · rename_i hlt
        rw [iltB_eq, decide_eq_false_iff_not] at hlt
        rw [if_neg hlt] at hrun
        exact val ⟨φ, _, _, h, w, hg, .int _ _, hr, Ext.refl _ _ _, hrun⟩ hex
    case max =>
      split at hc <;> try contradiction
      rename_i a b _ hx
      have hargs : args = #[a, b] := Array.ext' (by simpa using hx)
      have ha : VR φ (evv tm a) (ρ a) := hρ a (by simp [Op.operands, Call.operands, hargs])
      have hb : VR φ (evv tm b) (ρ b) := hρ b (by simp [Op.operands, Call.operands, hargs])
      cases hc; rw [XI.run_k2] at hg
      have hex : execOp ρ o = (do pure (Next.value (← Builtin.max_ ts o.type #[ρ a, ρ b]))) := by simp [execOp, ho, resolve, invoke, builtin, hargs]
      split at hg <;> try exact absurd hg hfl
      rename_i k x k' y e1 e2
      rw [e1] at ha; rw [e2] at hb
      have e3 : ρ a = .int k x := by generalize ρ a = z at ha; cases ha; rfl
      have e4 : ρ b = .int k' y := by generalize ρ b = z at hb; cases hb; rfl
      have hrun := run_max_int2 (P := P) (w := w) ts o.type k k' x y
      rw [e3, e4] at hex
      split at hg
      · rename_i hlt
        rw [iltB_eq, decide_eq_true_eq] at hlt
        rw [if_pos hlt] at hrun
        exact val ⟨φ, _, _, h, w, hg, .int _ _, hr, Ext.refl _ _ _, hrun⟩ hex
      · rename_i hlt
        rw [iltB_eq, decide_eq_false_iff_not] at hlt
        rw [if_neg hlt] at hrun
        exact val ⟨φ, _, _, h, w, hg, .int _ _, hr, Ext.refl _ _ _, hrun⟩ hex

end Go.Vai

namespace Go.Vai
open Go
variable {β : Type} {fl : β} {good : β → Prop} {P : Program} {φ : Emb} {h : Heap} {w : World} {t : TypeId}

/-! ## frames -/
structure TR (φ : Emb) (nt : Nat) (tm : T Value) (a : Act) : Prop where
  size : a.tmps.size = nt
  small : nt ≤ 1000000000000
  rel : ∀ t, t < nt → VR φ (tmv tm t) (a.tmps.getD t undef)

theorem TR.mono {φ φ' : Emb} {nt : Nat} {tm : T Value} {a : Act} (hs : Sub φ φ') (ht : TR φ nt tm a) : TR φ' nt tm a := ⟨ht.size, ht.small, fun t hlt => (ht.rel t hlt).mono hs⟩

theorem lt_of_ble {a b : Nat} (h : Nat.ble (Nat.succ a) b = true) : a < b := ble_t h

theorem TR.eval {nt : Nat} {tm : T Value} {a : Act} (ht : TR φ nt tm a) {x : Operand} (hx : opnOk nt x = true) : VR φ (evv tm x) (a.eval x) := by
  cases x with
  | tmp t => exact ht.rel t (lt_of_ble hx)
  | const v => exact selfOk_VR hx
  | func f => exact VR.func' .nil .nil
  | global g => cases hx

noncomputable def putT (tm : T Value) (d : Option Nat) (v : Value) : T Value := match d with | some d => tm.upd d v | none => tm
theorem putK_eq (tm : T Value) (d : Option Nat) (v : Value) (h : Heap) (κ : T Value → Heap → β) : putK tm d v h κ = κ (putT tm d v) h := by
  cases d with
  | none => rfl
  | some d => show T.set tm d v (fun tm => κ tm h) = _; rw [T.set_eq]; rfl

def dstOk (nt : Nat) (d : Option Nat) : Bool := match d with | some d => Nat.ble (Nat.succ d) nt | none => true

theorem small_tmp {nt t : Nat} (hn : nt ≤ 1000000000000) (ht : t < nt) : Small t := by unfold Small; omega

theorem tmv_put {nt : Nat} {tm : T Value} {d : Option Nat} {v : Value} (hn : nt ≤ 1000000000000) (hd : dstOk nt d = true) {t : Nat} (ht : t < nt) : tmv (putT tm d v) t = if d = some t then v else tmv tm t := by
  cases d with
  | none => simp [putT]
  | some d =>
    have hd' := lt_of_ble hd
    simp only [putT, tmv]
    rw [T.get_upd tm v (small_tmp hn hd') (small_tmp hn ht)]
    by_cases he : d = t
    · simp [he]
    · simp [he]

theorem TR.put {nt : Nat} {tm : T Value} {a : Act} (ht : TR φ nt tm a) {d : Option Nat} (hd : dstOk nt d = true) {v v' : Value} (hv : VR φ v v') : TR φ nt (putT tm d v) (a.put d v') := by
  refine ⟨?_, ht.small, ?_⟩
  · cases d <;> simp [Act.put, ht.size]
  · intro t hlt
    rw [tmv_put ht.small hd hlt]
    have hr := ht.rel t hlt
    cases d with
    | none => simpa [Act.put] using hr
    | some d =>
      have hd' := lt_of_ble hd
      by_cases he : d = t
      · subst he
        have : d < a.tmps.size := by rw [ht.size]; exact hd'
        simpa [Act.put, Array.getD, this] using hv
      · have h1 : ¬ (some d = some t) := by simpa using he
        rw [if_neg h1]
        simp only [Array.getD_eq_getD_getElem?] at hr ⊢
        simp only [Act.put]
        rw [Array.getElem?_setIfInBounds_ne he]
        exact hr

theorem operOk_dst {nt : Nat} {o : Oper} (h : operOk nt o = true) : dstOk nt o.dst = true := by
  simp only [operOk, Bool.and_eq_true] at h
  exact h.2
theorem operOk_opn {nt : Nat} {o : Oper} (h : operOk nt o = true) : ∀ y ∈ o.op.operands.toList, opnOk nt y = true := by
  simp only [operOk, Bool.and_eq_true, List.all_eq_true] at h
  exact h.1
theorem TR.evals {nt : Nat} {tm : T Value} {a : Act} (ht : TR φ nt tm a) {xs : List Operand} (hx : ∀ y ∈ xs, opnOk nt y = true) : F2 (VR φ) (xs.map (evv tm)) (xs.map a.eval) :=
  F2.map xs fun y hy => ht.eval (hx y hy)

/-! ## what an operation may come to, a call included -/
/-- after a call -/
def CallTo (good : β → Prop) (P : Program) (φ : Emb) (h : Heap) (w : World) (κ : Value → Heap → β) (f : FuncId) (args : Array Value) : Prop :=
  (callFunc f args).run P w = .ok (.enter f args) w ∧
  Calls P f args w fun e w' => ∃ φ' v v' h', e = .returned v' ∧ good (κ v h') ∧ VR φ' v v' ∧ HR P φ' h' w' ∧ Ext φ φ' h h' w w'

/-- whatever function, whatever depth; in a round of a range over a function, or not -/
def FR (r : Option Nat) : Fence := { Fence.wide with round := r }
theorem callsFR {r : Option Nat} {n : Nat} {f : FuncId} {args : Array Value} {R : Ending → World → Prop} : CallsIn (FR r) n P f args w R ↔ Calls P f args w R := callsIn_wide (n := n)

/-- what a call or a round hands back -/
def Back (good : β → Prop) (P : Program) (φ : Emb) (h : Heap) (w : World) (κ : Value → Heap → β) (e : Ending) (w' : World) : Prop :=
  ∃ φ' v v' h', e = .returned v' ∧ good (κ v h') ∧ VR φ' v v' ∧ HR P φ' h' w' ∧ Ext φ φ' h h' w w'

/-- an operation comes to a value, or to nothing, or to a call that returns, or to a round -/
def OpTo (good : β → Prop) (P : Program) (φ : Emb) (h : Heap) (w : World) (κ : Value → Heap → β) (r : Result Next) : Prop :=
  WOut good P φ h w κ r ∨ (∃ f args, r = .ok (.enter f args) w ∧ Calls P f args w (Back good P φ h w κ)) ∨
  ∃ l f tmps as bd, r = .ok (.round l f tmps as bd) w ∧ ∀ r0 : Option Nat, RoundIn (FR r0) 0 P l f tmps as bd w (Back good P φ h w κ)

theorem OpTo.upon {κ : Value → Heap → β} {r : Result Next} (ho : OpTo good P φ h w κ r) {o : Oper} {a : Act} {next : Act → World → Prop} {Q : Exit → Act → World → Prop} {r0 : Option Nat}
    (hn : ∀ φ' v v' h' w', good (κ v h') → VR φ' v v' → HR P φ' h' w' → Ext φ φ' h h' w w' → next (a.put o.dst v') w') : o.uponIn (FR r0) 0 P a next Q r := by
  rcases ho with ⟨φ', v, v', h', w', nx, g1, g2, g3, g4, rfl, g6⟩ | ⟨f, args, rfl, hc⟩ | ⟨l, f, tmps, as, bd, rfl, hc⟩
  · rcases g6 with rfl | ⟨rfl, rfl⟩
    · exact hn φ' v v' h' w' g1 g2 g3 g4
    · exact hn φ' v undef h' w' g1 g2 g3 g4
  · refine ⟨fun hh => (by cases hh), callsFR.2 (Calls.mono hc ?_)⟩
    rintro e w' ⟨φ', v, v', h', rfl, g1, g2, g3, g4⟩
    exact hn φ' v v' h' w' g1 g2 g3 g4
  · refine ⟨fun hh => (by cases hh), (hc r0).mono ?_⟩
    rintro e w' ⟨φ', v, v', h', rfl, g1, g2, g3, g4⟩
    exact hn φ' v v' h' w' g1 g2 g3 g4

theorem about_all {r0 : Option Nat} {o : Oper} {ρ : Operand → Value} : ∀ f, o.about P w ρ = some f → (FR r0).fn f := fun _ _ => trivial

/-! ## results -/
def resM (tmps : Array Value) : ResultVar → Sem Value
  | .tmp t => pure (tmps.getD t undef)
  | .cell c t => do loadVar t (← asAddr (tmps.getD c undef))

theorem run_loadAt_ptr {t : TypeId} {ad : Addr} : (Instr.loadAt t (.pointer (some ad))).run P w = (loadVar t ad).run P w := by
  simp [Instr.loadAt, Instr.sureAddr]

theorem results_mapM {tmps : Array Value} {fn : Func} {vs : List Value} (hm : (fn.results.toList.mapM (resM tmps)).run P w = .ok vs w) :
    (results fn tmps).run P w = .ok (match vs with | [v] => v | vs => .tuple ⟨vs⟩) w := by
  have he : results fn tmps = (do let vs ← fn.results.mapM (resM tmps); pure (if h : vs.size = 1 then vs[0] else .tuple vs)) := by
    unfold results
    congr 1
  rw [he, Array.mapM_eq_mapM_toList]
  match vs, hm with
  | [], hm => simp [hm]
  | [v], hm => simp [hm]
  | v :: v2 :: vs, hm => simp [hm]

theorem load1_ptr (hfl : ¬ good fl) {a a' : Value} {κ : Value → Heap → β} (hg : good (load1 fl a h κ)) (hv : VR φ a a') : ∃ ad, a' = .pointer (some ad) := by
  unfold load1 at hg
  split at hg <;> try exact absurd hg hfl
  cases hv; exact ⟨_, rfl⟩
theorem loadA_ptr (hfl : ¬ good fl) {s : Nat} {a a' : Value} {κ : Value → Heap → β} (hg : good (loadA fl s a h κ)) (hv : VR φ a a') : ∃ ad, a' = .pointer (some ad) := by
  unfold loadA at hg
  split at hg <;> try exact absurd hg hfl
  cases hv; exact ⟨_, rfl⟩

theorem resultsB_sound (hfl : ¬ good fl) (hr : HR P φ h w) {nt : Nat} {tm : T Value} {a : Act} (ht : TR φ nt tm a) : ∀ (rs : List ResultVar) {κ : List Value → β}, rs.all (resOk nt) = true →
    good (resultsB fl h tm (rs.map (resOf P)) κ) → ∃ vs vs', good (κ vs) ∧ F2 (VR φ) vs vs' ∧ (rs.mapM (resM a.tmps)).run P w = .ok vs' w := by
  intro rs
  induction rs with
  | nil => intro κ _ hg; exact ⟨[], [], hg, .nil, by simp⟩
  | cons r rs ih =>
    intro κ hok hg
    simp only [List.all_cons, Bool.and_eq_true] at hok
    have fin : ∀ {v v' : Value}, (resM a.tmps r).run P w = .ok v' w → VR φ v v' → good (resultsB fl h tm (rs.map (resOf P)) fun vs => κ (v :: vs)) →
        ∃ vs vs', good (κ vs) ∧ F2 (VR φ) vs vs' ∧ ((r :: rs).mapM (resM a.tmps)).run P w = .ok vs' w := by
      intro v v' h1 h2 h3
      obtain ⟨vs, vs', g1, g2, g3⟩ := ih hok.2 h3
      exact ⟨_, v' :: vs', g1, .cons h2 g2, by simp [List.mapM_cons, g3, h1]⟩
    cases r with
    | tmp t =>
      simp only [List.map_cons, resOf, resultsB, ev_eq] at hg
      exact fin (by simp [resM]) (ht.rel t (lt_of_ble hok.1)) hg
    | cell c t =>
      have hc := ht.rel c (lt_of_ble hok.1)
      simp only [List.map_cons, resOf] at hg
      cases hx : aggT P t with
      | none => simp only [hx, resultsB] at hg; exact absurd hg hfl
      | some b =>
        cases hs : szOf P t with
        | none => cases b <;> simp only [hx, hs, resultsB] at hg <;> exact absurd hg hfl
        | some s =>
          cases b with
          | true =>
            simp only [hx, hs, resultsB, ev_eq] at hg
            obtain ⟨ad, had⟩ := loadA_ptr hfl hg hc
            obtain ⟨v, v', g1, g2, g3⟩ := loadA_sound hfl hx hs hg hc hr
            rw [had, run_loadAt_ptr] at g3
            exact fin (by simp only [resM, had]; simpa [asAddr] using g3) g2 g1
          | false =>
            simp only [hx, hs, resultsB, ev_eq] at hg
            obtain ⟨ad, had⟩ := load1_ptr hfl hg hc
            obtain ⟨v, v', g1, g2, g3⟩ := load1_sound hfl hx hg hc hr
            rw [had, run_loadAt_ptr] at g3
            exact fin (by simp only [resM, had]; simpa [asAddr] using g3) g2 g1

/-! ## methods -/
theorem methodB_sound {name : String} {f : FuncId} (hm : methodB P t name = some f) (v : Value) : (method (P.types.size + Made.depth) t v name).run P w = .ok (f, v) w := by
  unfold methodB at hm
  split at hm <;> try contradiction
  rename_i i d hi hd
  split at hm <;> try contradiction
  rename_i m hf
  obtain ⟨n, hn⟩ : ∃ n, P.types.size + Made.depth = n + 1 := ⟨P.types.size + Made.depth - 1, by
    have : 0 < Made.depth := by decide
    omega⟩
  rw [hn]
  unfold method
  cases hp : m.path.isEmpty with
  | false => simp [hp] at hm
  | true =>
    have hpl : m.path.toList = [] := by simpa using hp
    cases hfun : m.func with
    | none => simp [hp, hfun] at hm
    | some p =>
      obtain ⟨f', b⟩ := p
      have hw : f' = f ∧ ∀ wr, (receiverAt t (.val v) b (some wr)).run P w = .ok v w := by
        cases b with
        | true =>
          cases d <;> simp only [hp, hfun] at hm <;> try contradiction
          cases hm
          exact ⟨rfl, fun wr => by simp [receiverAt, run_und hd, Place.get]⟩
        | false =>
          cases d <;> simp only [hp, hfun] at hm <;> try contradiction
          all_goals (cases hm; exact ⟨rfl, fun wr => by simp [receiverAt, run_und hd, Place.get]⟩)
      obtain ⟨rfl, hw⟩ := hw
      have hpe : m.path = #[] := by simpa using hp
      simp [typeInfo, hi, hf, hpe, follow, hfun, hw]

theorem methodP_sound {name : String} {f : FuncId} {off : Nat} {ty : TypeId} (hm : methodP P t name = some (f, off, ty)) {ad : Addr} {v : Value} (hl : (loadVar ty (ad.add off)).run P w = .ok v w) :
    aggT P ty = some false ∧ (method (P.types.size + Made.depth) t (.pointer (some ad)) name).run P w = .ok (f, v) w := by
  unfold methodP at hm
  split at hm <;> try contradiction
  rename_i i hi
  split at hm <;> try contradiction
  rename_i m hf
  split at hm <;> try contradiction
  rename_i s f' hp hfun
  split at hm <;> try contradiction
  rename_i fs hd hs
  split at hm <;> try contradiction
  rename_i fld hfld
  split at hm <;> try contradiction
  rename_i e hag hsz hue
  cases hm
  refine ⟨hag, ?_⟩
  obtain ⟨n, hn⟩ : ∃ n, P.types.size + Made.depth = n + 1 := ⟨P.types.size + Made.depth - 1, by
    have : 0 < Made.depth := by decide
    omega⟩
  rw [hn]
  unfold method
  simp [typeInfo, hi, hf, hp, hfun, follow, run_und hs, hfld, hd, Place.get, asAddr, fieldPlace, run_size hsz, receiverAt, run_und hue, hl]

theorem methodQ_sound {name : String} {f : FuncId} {ty : TypeId} (hm : methodQ P t name = some (f, ty)) {ad : Addr} {v : Value} (hl : (loadVar ty ad).run P w = .ok v w) :
    (method (P.types.size + Made.depth) t (.pointer (some ad)) name).run P w = .ok (f, v) w := by
  unfold methodQ at hm
  split at hm <;> try contradiction
  rename_i i e hi hu
  split at hm <;> try contradiction
  rename_i m hf
  split at hm <;> try contradiction
  rename_i f' hp hfun hag
  cases hm
  obtain ⟨n, hn⟩ : ∃ n, P.types.size + Made.depth = n + 1 := ⟨P.types.size + Made.depth - 1, by
    have : 0 < Made.depth := by decide
    omega⟩
  rw [hn]
  unfold method
  have hpe : m.path = #[] := by simpa using hp
  have hw : ∀ a b : String, (Builtin.ssaWrapNilChk_ #[t] t #[.pointer (some ad), strVal a, strVal b]).run P w = .ok (.pointer (some ad)) w := fun _ _ => rfl
  simp [typeInfo, hi, hf, hpe, hfun, follow, Place.get, asAddr, receiverAt, run_und hu, hw, hl]

end Go.Vai

namespace Go.Vai
open Go
variable {β : Type} {fl : β} {good : β → Prop} {pr : Prims β} {P : Program} {φ : Emb} {h : Heap} {w : World} {t : TypeId}

def exOf : Ex → Exit
  | .normal => .normal
  | .exit i => .exit i
  | .ret => .ret

/-- the marks of ranges over functions: their blocks, new ones, each below the one before -/
def Marks (N : Nat) (φ : Emb) (w : World) : Nat → List Deferred → Prop
  | _, [] => True
  | U, d :: l => ∃ D, d = { target := .collected D, args := #[] } ∧ N ≤ D ∧ D < U ∧ w.heap[D]? = some (.deferred (some [])) ∧ (∀ b pl, φ b = some pl → pl.B ≠ D) ∧ Marks N φ w D l

theorem Marks.le {N : Nat} : ∀ {l : List Deferred} {U U' : Nat}, Marks N φ w U l → U ≤ U' → Marks N φ w U' l
  | [], _, _, _, _ => trivial
  | _ :: _, _, _, ⟨D, h1, h2, h3, h4, h5, h6⟩, hU => ⟨D, h1, h2, Nat.lt_of_lt_of_le h3 hU, h4, h5, h6⟩

theorem Ext.notin {φ' : Emb} {h' : Heap} {w' : World} (hx : Ext φ φ' h h' w w') {D : Nat} (hD : D < w.heap.size) (hn : ∀ b pl, φ b = some pl → pl.B ≠ D) : ∀ b pl, φ' b = some pl → pl.B ≠ D := by
  intro b pl hb
  cases h0 : φ b with
  | some p =>
    have := hx.sub b p h0
    rw [hb] at this; cases this
    exact hn b pl h0
  | none =>
    rcases (hx.new b pl h0 hb).2 with h1 | ⟨b0, p0, h1, h2⟩
    · omega
    · rw [← h2]; exact hn b0 p0 h1

theorem Marks.mono {N : Nat} {φ' : Emb} {h' : Heap} {w' : World} (hx : Ext φ φ' h h' w w') : ∀ {l : List Deferred} {U : Nat}, U ≤ w.heap.size → Marks N φ w U l → Marks N φ' w' U l
  | [], _, _, _ => trivial
  | _ :: _, _, hU, ⟨D, h1, h2, h3, h4, h5, h6⟩ =>
    ⟨D, h1, h2, h3, by rw [hx.frC D (by omega) h5]; exact h4, hx.notin (by omega) h5, Marks.mono hx (by omega) h6⟩

theorem Marks.append {N N2 U1 : Nat} {l1 : List Deferred} (h1 : Marks N φ w U1 l1) (hN : N ≤ N2) (hU : U1 ≤ N2) : ∀ {l2 : List Deferred} {U : Nat}, U1 ≤ U → Marks N2 φ w U l2 → Marks N φ w U (l2 ++ l1)
  | [], _, hle, _ => h1.le hle
  | _ :: _, _, _, ⟨D, e1, e2, e3, e4, e5, e6⟩ => ⟨D, e1, Nat.le_trans hN e2, e3, e4, e5, Marks.append h1 hN hU (Nat.le_trans hU e2) e6⟩

/-- where a piece of code may come to -/
def Post (good : β → Prop) (P : Program) (nt : Nat) (φ : Emb) (h : Heap) (w : World) (ds : List Deferred) (κ : Ex → T Value → Heap → β) (e : Exit) (a' : Act) (w' : World) : Prop :=
  ∃ x tm' h' φ', e = exOf x ∧ good (κ x tm' h') ∧ TR φ' nt tm' a' ∧ HR P φ' h' w' ∧ Ext φ φ' h h' w w' ∧ ∃ ms, a'.defers = ms ++ ds ∧ Marks w.heap.size φ' w' w'.heap.size ms

def RunOk (good : β → Prop) (P : Program) (rec : Rec β) : Prop :=
  ∀ (c : Code) (r : Option Nat) (tm : T Value) (h : Heap) (κ : Ex → T Value → Heap → β) (φ : Emb) (w : World) (nt : Nat) (a : Act), (r = none ∨ noRf c = true) → codeOk nt c = true → TR φ nt tm a → HR P φ h w → good (rec c tm h κ) →
    c.wpIn (FR r) 0 P (Post good P nt φ h w a.defers κ) a w

structure PrimsOk (good : β → Prop) (pr : Prims β) (P : Program) : Prop where
  both : ∀ x y, good (pr.both x y) → good x ∧ good y
  fn : ∀ f g, pr.fn f = some g → ∀ (args args' : List Value) (h : Heap) (φ : Emb) (w : World) (κ : Value → Heap → β), F2 (VR φ) args args' → HR P φ h w → good (g args h κ) → CallTo good P φ h w κ f args'.toArray

/-- a block that nobody names is turned -/
theorem HR.aside (hr : HR P φ h w) {D : Nat} (hn : ∀ b pl, φ b = some pl → pl.B ≠ D) (o : Obj) : HR P φ h (w.putObj D o) := by
  refine ⟨fun b ob pl h1 h2 => ?_, fun b pl h1 => ?_, hr.keys, hr.nxs, hr.inj, hr.lo⟩
  · rw [World.putObj_heap_other (hn b pl h2)]; exact hr.obj b ob pl h1 h2
  · rw [World.putObj_size]; exact hr.dom b pl h1
theorem Ext.aside {φ' : Emb} {h' : Heap} {w0 : World} (hx : Ext φ φ' h h' w0 w) {D : Nat} (hD : w0.heap.size ≤ D) (ds : Option (List Deferred)) : Ext φ φ' h h' w0 (w.putObj D (.deferred ds)) where
  sub := hx.sub
  new := hx.new
  nx := hx.nx
  size := by rw [World.putObj_size]; exact hx.size
  frC := fun B hB hn => by rw [World.putObj_heap_other (by omega)]; exact hx.frC B hB hn
  frA := hx.frA
  tape := hx.tape
  os := hx.os
  output := hx.output
  fz := fun B hB => by
    by_cases he : B = D
    · subst he
      by_cases hl : B < w.heap.size
      · rw [World.putObj_heap_same hl]; trivial
      · have : (w.putObj B (.deferred ds)).heap[B]? = none := by simp [World.putObj_size]; omega
        rw [this]; trivial
    · rw [World.putObj_heap_other he]; exact hx.fz B hB
  lo := hx.lo
  frL := hx.frL
  frW := fun x o pl h1 h2 h3 h4 h5 => by rw [World.putObj_heap_other (by omega)]; exact hx.frW x o pl h1 h2 h3 h4 h5
  dr := hx.dr

/-- the marks are come to, one by one; then the results are read -/
theorem leave_marks {fn : Func} {a : Act} {φ' : Emb} {h' : Heap} {w0 : World} {R : Ending → World → Prop}
    (hend : ∀ w' : World, HR P φ' h' w' → Ext φ φ' h h' w0 w' → ∃ v, (results fn a.tmps).run P w' = .ok v w' ∧ R (.returned v) w') :
    ∀ (ms : List Deferred) (U : Nat) (w' : World), Marks w0.heap.size φ' w' U ms → HR P φ' h' w' → Ext φ φ' h h' w0 w' → LeavesInM (FR none) 0 P fn a.tmps R ms .returning w'
  | [], _, w', _, hr, hx => hend w' hr hx
  | _ :: ms, _, w', ⟨D, e1, e2, e3, e4, e5, e6⟩, hr, hx => by
    subst e1
    have hr' := hr.aside e5 (.deferred none)
    have hx' := hx.aside e2 none
    refine ⟨by simp, .inl ⟨D, w'.putObj D (.deferred none), rfl, run_takeDeferred e4, leave_marks hend ms D _ ?_ hr' hx'⟩⟩
    -- the others lie as they lay
    have keep : ∀ (l : List Deferred) (U : Nat), U ≤ D → Marks w0.heap.size φ' w' U l → Marks w0.heap.size φ' (w'.putObj D (.deferred none)) U l := by
      intro l
      induction l with
      | nil => intro _ _ _; trivial
      | cons d l ih =>
        rintro U hU ⟨D', f1, f2, f3, f4, f5, f6⟩
        exact ⟨D', f1, f2, f3, by rw [World.putObj_heap_other (by omega)]; exact f4, f5, ih D' (by omega) f6⟩
    exact keep ms D (Nat.le_refl _) e6

theorem callOk_sound {f : FuncId} {c : Code} {rs : List XRes} {nt : Nat} (hc : callOk P f = .mk c rs nt) :
    ∃ fn, P.funcs[f]? = some fn ∧ fn.body = some c ∧ fn.ntmps = nt ∧ rs = fn.results.toList.map (resOf P) ∧ codeOk nt c = true ∧ fn.results.toList.all (resOk nt) = true ∧ nt ≤ 1000000000000 ∧
      ∀ (args : Array Value) (w : World), (callFunc f args).run P w = .ok (.enter f args) w := by
  unfold callOk at hc
  split at hc <;> try contradiction
  rename_i fn hf
  split at hc <;> try contradiction
  rename_i hn
  split at hc <;> try contradiction
  rename_i c' hb
  split at hc <;> try contradiction
  rename_i hok
  simp only [Bool.and_eq_true] at hok
  cases hc
  refine ⟨fn, hf, hb, rfl, rfl, hok.1.1, hok.1.2, ble_t hok.2, fun args w => ?_⟩
  have hn' : ¬ fn.name = "runtime.NumGoroutine" := by simpa using hn
  simp [callFunc, hf, hn', hb]

theorem layArgs_eq (vs : List Value) : ∀ (tm : T Value) (i : Nat) (κ : T Value → β), layArgs vs tm i κ = κ (lay vs tm i) := by
  induction vs with
  | nil => intro tm i κ; rfl
  | cons v vs ih =>
    intro tm i κ
    show T.set tm i v (fun tm => layArgs vs tm (Nat.succ i) κ) = _
    rw [T.set_eq, ih]
    rfl

theorem TR.start {args args' : List Value} {nt : Nat} (ha : F2 (VR φ) args args') (hn : nt ≤ 1000000000000) (hle : args.length ≤ nt) :
    TR φ nt (lay args .nil 0) { tmps := args'.toArray ++ Array.replicate (nt - args'.toArray.size) undef, defers := [] } := by
  have hlen := ha.length
  refine ⟨by simp [← hlen]; omega, hn, fun t ht => ?_⟩
  simp only [tmv]
  rw [get_lay args .nil 0 (by omega) t (by unfold Small; omega)]
  simp only [Array.getD_eq_getD_getElem?]
  by_cases hlt : t < args.length
  · rw [if_pos (by omega)]
    obtain ⟨v, hv⟩ : ∃ v, args[t]? = some v := ⟨args[t], by simp [hlt]⟩
    obtain ⟨v', e1, e2⟩ := ha.get t v hv
    rw [Array.getElem?_append_left (by simp; omega)]
    simpa [hv, e1] using e2
  · rw [if_neg (by omega), T.get_nil, Array.getElem?_append_right (by simp; omega), Array.getElem?_replicate]
    have hu : ((if t - args'.toArray.size < nt - args'.toArray.size then some undef else none : Option Value).getD undef) = undef := by split <;> rfl
    rw [hu]
    exact VR.undef

theorem F2.toList {a a' : Array Value} (h : a.toList.length = a'.toList.length) (hv : ∀ (i : Nat) (v v' : Value), a.toList[i]? = some v → a'.toList[i]? = some v' → VR φ v v') : F2 (VR φ) a.toList a'.toList :=
  F2.of_get h hv

theorem callF_sound (hfl : ¬ good fl) (hp : PrimsOk good pr P) {rec : Rec β} (hrec : RunOk good P rec) {f : FuncId} {args args' : List Value} (ha : F2 (VR φ) args args') (hr : HR P φ h w)
    {κ : Value → Heap → β} (hg : good (callF fl pr P rec f args h κ)) : CallTo good P φ h w κ f args'.toArray := by
  unfold callF at hg
  split at hg
  · rename_i g hg'
    exact hp.fn f g hg' args args' h φ w κ ha hr hg
  · split at hg
    · exact absurd hg hfl
    · rename_i c rs nt hc
      obtain ⟨fn, hf, hb, rfl, rfl, hck, hrk, hnt, hcall⟩ := callOk_sound hc
      split at hg <;> try exact absurd hg hfl
      rename_i hle
      rw [layArgs_eq] at hg
      refine ⟨hcall _ _, ?_⟩
      have hst := TR.start (nt := fn.ntmps) ha hnt (ble_t hle)
      refine callsFR (r := none) (n := 0) |>.1 (callsIn_of_wp_marks hf hb trivial (wpIn_mono (hrec c none _ h _ φ w fn.ntmps _ (.inl rfl) hck hst hr hg) ?_))
      rintro e a' w' ⟨x, tm', h', φ', rfl, g1, g2, g3, g4, ms, g5, g6⟩
      have hms : a'.defers = ms := by rw [g5]; simp
      have fin : good (resultsB fl h' tm' (fn.results.toList.map (resOf P)) fun vs => oneOr κ h' vs) →
          LeavesInM (FR none) 0 P fn a'.tmps (fun e w' => ∃ φ' v v' h', e = .returned v' ∧ good (κ v h') ∧ VR φ' v v' ∧ HR P φ' h' w' ∧ Ext φ φ' h h' w w') a'.defers .returning w' := by
        intro k
        rw [hms]
        refine leave_marks (a := a') (φ' := φ') (h' := h') ?_ ms _ w' g6 g3 g4
        intro w2 hr2 hx2
        obtain ⟨vs, vs', k1, k2, k3⟩ := resultsB_sound hfl hr2 g2 _ hrk k
        refine ⟨_, results_mapM k3, ?_⟩
        cases k2 with
        | nil => exact ⟨φ', _, _, h', rfl, k1, VR.tuple' .nil, hr2, hx2⟩
        | cons hv hvs =>
          cases hvs with
          | nil => exact ⟨φ', _, _, h', rfl, k1, hv, hr2, hx2⟩
          | cons hv2 hvs => exact ⟨φ', _, _, h', rfl, k1, VR.tuple' (.cons hv (.cons hv2 hvs)), hr2, hx2⟩
      cases x with
      | normal => exact fin g1
      | exit i => exact absurd g1 hfl
      | ret => exact fin g1

theorem OpTo.call {κ : Value → Heap → β} {f : FuncId} {args : Array Value} (hc : CallTo good P φ h w κ f args) {s : Sem Next} (hs : s.run P w = (callFunc f args).run P w) : OpTo good P φ h w κ (s.run P w) :=
  .inr (.inl ⟨f, args, by rw [hs, hc.1], hc.2⟩)

/-! ## rounds -/
/-- the loop behind an abstract one -/
theorem HR.loopAt (hr : HR P φ h w) {b : Nat} {st : LoopState} {pend : Option Ex} {tm : T Value} {ps : List Nat} {x y : Code} {pl : Pl} (hb : h.bl.get b = some (.loop st pend tm ps x y)) (hp : φ b = some pl) :
    ∃ r, w.heap[pl.B]? = some (.loop r) ∧ r.state = st ∧ PendR pend r.pending ∧ r.params.toList = ps ∧ r.assign = x ∧ r.body = y ∧
      ∃ nt, LoopCode nt ps x y ∧ r.tmps.size = nt ∧ ∀ t, t < nt → VR φ (tmv tm t) (r.tmps.getD t undef) := by
  have := hr.obj b _ pl hb hp
  cases hO : w.heap[pl.B]? with
  | none => rw [hO] at this; exact this.elim
  | some O =>
    rw [hO] at this
    cases O <;> simp only [OR] at this <;> try exact this.elim
    exact ⟨_, rfl, this⟩

theorem HR.loopSet (hr : HR P φ h w) {b : Nat} (hlo : h.lo ≤ b) {st st' : LoopState} {pend pend' : Option Ex} {tm : T Value} {ps : List Nat} {x y : Code} {pl : Pl} (hb : h.bl.get b = some (.loop st pend tm ps x y)) (hp : φ b = some pl)
    {r : Loop} (hO : w.heap[pl.B]? = some (.loop r)) {pd : Option Code} (hpd : PendR pend' pd) :
    HR P φ ⟨h.nx, h.bl.upd b (.loop st' pend' tm ps x y), h.lo⟩ (w.putObj pl.B (.loop { r with state := st', pending := pd })) ∧
    Ext φ φ h ⟨h.nx, h.bl.upd b (.loop st' pend' tm ps x y), h.lo⟩ w (w.putObj pl.B (.loop { r with state := st', pending := pd })) := by
  obtain ⟨r', hO', k1, k2, k3, k4, k5, k6⟩ := hr.loopAt hb hp
  rw [hO] at hO'; cases hO'
  refine hr.turn hlo hp ⟨_, hb, trivial⟩ (by simp) (fun k hk => World.putObj_heap_other hk) ?_ rfl rfl rfl (.inl trivial)
  rw [World.putObj_heap_same (hr.dom b pl hp).2]
  exact ⟨rfl, hpd, k3, k4, k5, k6⟩

theorem layAt_eq : ∀ (ps : List Nat) (vs : List Value) (tm : T Value) (κ : T Value → β), ∃ tm', layAt ps vs tm κ = κ tm' ∧
    ∀ {φ : Emb} {nt : Nat} {vs' : List Value} {tmps : Array Value}, F2 (VR φ) vs vs' → ps.length = vs.length → ps.all (fun t => Nat.ble (Nat.succ t) nt) = true → nt ≤ 1000000000000 → tmps.size = nt → (∀ t, t < nt → VR φ (tmv tm t) (tmps.getD t undef)) →
      ((ps.zip vs').foldl (fun t (x : Nat × Value) => t.setIfInBounds x.1 x.2) tmps).size = nt ∧ ∀ t, t < nt → VR φ (tmv tm' t) (((ps.zip vs').foldl (fun t (x : Nat × Value) => t.setIfInBounds x.1 x.2) tmps).getD t undef) := by
  intro ps
  induction ps with
  | nil => intro vs tm κ; exact ⟨tm, by cases vs <;> rfl, fun _ _ _ _ h2 h3 => ⟨by simpa using h2, by simpa using h3⟩⟩
  | cons p ps ih =>
    intro vs tm κ
    cases vs with
    | nil => exact ⟨tm, rfl, fun _ h1 _ _ _ _ => by simp at h1⟩
    | cons v vs =>
      obtain ⟨tm', e1, e2⟩ := ih vs (tm.upd p v) κ
      refine ⟨tm', by show T.set tm p v (fun tm => layAt ps vs tm κ) = _; rw [T.set_eq]; exact e1, ?_⟩
      intro φ nt vs' tmps hv hl hps hnt hsz hrel
      cases hv with
      | cons hv hvs =>
        simp only [List.all_cons, Bool.and_eq_true] at hps
        have hp : p < nt := lt_of_ble hps.1
        simp only [List.zip_cons_cons, List.foldl_cons]
        refine e2 hvs (by simpa using hl) hps.2 hnt (by simpa using hsz) ?_
        intro t ht
        simp only [tmv]
        rw [T.get_upd tm v (small_tmp hnt hp) (small_tmp hnt ht)]
        have := hrel t ht
        simp only [Array.getD_eq_getD_getElem?] at this ⊢
        by_cases he : p = t
        · subst he
          rw [if_pos rfl, Array.getElem?_setIfInBounds_self_of_lt (by omega)]
          exact hv
        · rw [if_neg he, Array.getElem?_setIfInBounds_ne he]
          exact this

theorem PendR.jump {e : Ex} : ∀ {c : Option Code}, PendR (some e) c → (e = .ret ∧ c = some .ret) ∨ ∃ i, e = .exit i ∧ c = some (.exit i) := by
  intro c hp
  cases e <;> cases c <;> try exact hp.elim
  all_goals (rename_i c; cases c <;> try exact hp.elim)
  · exact .inr ⟨_, rfl, by have : _ = _ := hp; rw [this]⟩
  · exact .inl ⟨rfl, rfl⟩

theorem roundB_sound (hfl : ¬ good fl) {rec : Rec β} (hrec : RunOk good P rec) {l : Nat} {pl : Pl} (hp : φ l = some pl) {args args' : List Value} (ha : F2 (VR φ) args args') (hr : HR P φ h w)
    {κ : Value → Heap → β} (hg : good (roundB fl rec l args h κ)) : OpTo good P φ h w κ ((Instr.yield pl.B args'.toArray).run P w) := by
  unfold roundB at hg
  split at hg <;> try exact absurd hg hfl
  rename_i st pend tm0 ps x y hb
  split at hg <;> try exact absurd hg hfl
  rename_i hlen; have hlen := beq_t hlen
  obtain ⟨r, hO, k1, k2, k3, k4, k5, nt, k6, k7, k8⟩ := hr.loopAt hb hp
  obtain ⟨tm1, e1, e2⟩ := layAt_eq ps args tm0 (fun tm => rec x tm h (beginRoundK fl rec l y κ))
  rw [e1] at hg
  have hal := ha.length
  have hps : r.params.size = ps.length := by rw [← k3]; simp
  have hy := run_yield (P := P) (args := args'.toArray) hO (by simp; omega)
  refine .inr (.inr ⟨pl.B, r.fn, _, r.assign, r.body, hy, fun r0 => ?_⟩)
  have hfold : (r.params.zip args'.toArray).foldl (fun tmps (x : Nat × Value) => tmps.setIfInBounds x.1 x.2) r.tmps = (ps.zip args').foldl (fun t (x : Nat × Value) => t.setIfInBounds x.1 x.2) r.tmps := by
    rw [← Array.foldl_toList, Array.toList_zip, k3]
  obtain ⟨f1, f2⟩ := e2 ha (by omega) k6.ps k6.small k7 k8
  rw [k4, k5]
  have hst : TR φ nt tm1 { tmps := (r.params.zip args'.toArray).foldl (fun tmps (x : Nat × Value) => tmps.setIfInBounds x.1 x.2) r.tmps, defers := [] } := by
    rw [hfold]; exact ⟨f1, k6.small, f2⟩
  have hround : RoundIn (FR r0) 0 P pl.B r.fn ((r.params.zip args'.toArray).foldl (fun tmps (x : Nat × Value) => tmps.setIfInBounds x.1 x.2) r.tmps) x y w (Back good P φ h w κ) := by
    refine roundIn_of_wpIn (F := FR r0) trivial ?_
    refine wpIn_mono (hrec x (some pl.B) tm1 h _ φ w nt _ (.inr k6.ra) k6.ca hst hr hg) ?_
    rintro e a1 w1 ⟨x1, tm2, h1, φ1, rfl, g1, g2, g3, g4, ms, g5, g6⟩
    unfold beginRoundK at g1
    split at g1 <;> try exact absurd g1 hfl
    split at g1 <;> try exact absurd g1 hfl
    rename_i pend1 tm01 ps1 x2 y2 hb1
    obtain ⟨hlo, g1⟩ := setBlock_good hfl g1
    have hp1 := g4.sub l pl hp
    obtain ⟨r1, hO1, q1, q2, q3, q4, q5, q6⟩ := g3.loopAt hb1 hp1
    obtain ⟨m1, m2⟩ := g3.loopSet (st' := .busy) (pend' := pend1) hlo hb1 hp1 hO1 (pd := r1.pending) q2
    refine ⟨_, run_beginRound hO1 q1, ?_⟩
    refine wpIn_mono (hrec y (some pl.B) tm2 _ _ φ1 _ nt a1 (.inr k6.rb) k6.cb g2 m1 g1) ?_
    rintro e a2 w2 ⟨x3, tm3, h3, φ3, rfl, j1, j2, j3, j4, ms2, j5, j6⟩
    unfold endRoundK at j1
    split at j1 <;> try exact absurd j1 hfl
    rename_i st3 pend3 tm03 ps3 x4 y4 hb3
    have hp3 := j4.sub l pl hp1
    obtain ⟨r3, hO3, _⟩ := j3.loopAt hb3 hp3
    have hall := g4.trans (m2.trans j4)
    cases x3 with
    | normal =>
      obtain ⟨hlo3, j1⟩ := setBlock_good hfl j1
      obtain ⟨n1, n2⟩ := j3.loopSet (st' := .ready) (pend' := none) hlo3 hb3 hp3 hO3 (pd := none) trivial
      exact ⟨_, _, run_endRound none hO3, φ3, _, _, _, rfl, j1, .bool true, n1, hall.trans n2⟩
    | exit i =>
      obtain ⟨hlo3, j1⟩ := setBlock_good hfl j1
      obtain ⟨n1, n2⟩ := j3.loopSet (st' := .done) (pend' := some (.exit i)) hlo3 hb3 hp3 hO3 (pd := some (.exit i)) rfl
      exact ⟨_, _, run_endRound (some (.exit i)) hO3, φ3, _, _, _, rfl, j1, .bool false, n1, hall.trans n2⟩
    | ret =>
      obtain ⟨hlo3, j1⟩ := setBlock_good hfl j1
      obtain ⟨n1, n2⟩ := j3.loopSet (st' := .done) (pend' := some .ret) hlo3 hb3 hp3 hO3 (pd := some .ret) trivial
      exact ⟨_, _, run_endRound (some .ret) hO3, φ3, _, _, _, rfl, j1, .bool false, n1, hall.trans n2⟩
  exact hround

theorem compCall_sound (hfl : ¬ good fl) (hp : PrimsOk good pr P) {rec : Rec β} (hrec : RunOk good P rec) {c : Call} {tm : T Value} {a : Act} (hop : ∀ y ∈ c.operands.toList, VR φ (evv tm y) (a.eval y))
    (hr : HR P φ h w) {κ : Value → Heap → β} (hg : good (compCall fl pr P c rec tm h κ)) {o : Oper} (ho : o.op = .call c) : OpTo good P φ h w κ ((execOp a.eval o).run P w) := by
  obtain ⟨callee, args, ts⟩ := c
  have hargs : F2 (VR φ) (args.toList.map (evv tm)) (args.toList.map a.eval) := F2.map _ fun y hy => hop y (by simp [Call.operands] at hy ⊢; exact .inr hy)
  cases callee with
  | builtin b => exact absurd hg hfl
  | value x =>
    have gen : good (evs tm args.toList fun args => ev tm x fun fv => callV fl pr P rec fv args h κ) → OpTo good P φ h w κ ((execOp a.eval o).run P w) := by
      intro hg
      rw [evs_eq, ev_eq] at hg
      have hxv : VR φ (evv tm x) (a.eval x) := hop x (by simp [Call.operands])
      unfold callV at hg
      split at hg <;> try exact absurd hg hfl
      rotate_left
      · rename_i l first cap hv
        split at hg <;> try exact absurd hg hfl
        rw [hv] at hxv
        generalize hz : a.eval x = z at hxv
        cases hxv with
        | yield hp =>
          have := roundB_sound hfl hrec hp hargs hr hg
          have he : (args.toList.map a.eval).toArray = args.map a.eval := by apply Array.ext'; simp
          rw [he] at this
          simpa [execOp, ho, resolve, hz, Deferred.ofValue, invoke] using this
      rename_i f first cap hv
      rw [hv] at hxv
      generalize hz : a.eval x = z at hxv
      cases hxv with
      | func fn a1 a1' b1 b1' ha hb hva hvb =>
        have hall := ((F2.toList ha hva).append hargs).append (F2.toList hb hvb)
        refine OpTo.call (callF_sound hfl hp hrec hall hr hg) ?_
        have he : (a1'.toList ++ args.toList.map a.eval ++ b1'.toList).toArray = a1' ++ args.map a.eval ++ b1' := by apply Array.ext'; simp
        rw [he]
        simp [execOp, ho, resolve, hz, Deferred.ofValue, invoke]
    cases x with
    | func f =>
      simp only [compCall, evs_eq] at hg
      refine OpTo.call (callF_sound hfl hp hrec hargs hr hg) ?_
      have he : (args.toList.map a.eval).toArray = args.map a.eval := by apply Array.ext'; simp
      rw [he]
      simp [execOp, ho, resolve, Act.eval, Deferred.ofValue, invoke]
    | tmp t => exact gen hg
    | const v => exact gen hg
    | global g => exact gen hg
  | invoke r name =>
    simp only [compCall, evs_eq, ev_eq] at hg
    have hrv : VR φ (evv tm r) (a.eval r) := hop r (by simp [Call.operands])
    unfold callI at hg
    split at hg <;> try exact absurd hg hfl
    rename_i t v hv
    have e0 : ∀ (v' : Value), a.eval r = .iface t v' → (execOp a.eval o).run P w = (callMethod (.iface t v') name (args.map a.eval)).run P w := by
      intro v' hz
      have hx : (#[Value.iface t v'] ++ args.map a.eval).extract 1 (#[Value.iface t v'] ++ args.map a.eval).size = args.map a.eval := by
        apply Array.ext'; simp; exact List.take_of_length_le (by simp)
      rw [← hx]
      have h0 : (#[Value.iface t v'] ++ args.map a.eval)[0]? = some (.iface t v') := by
        rw [Array.getElem?_append_left (by simp)]; rfl
      simp [execOp, ho, resolve, hz, invoke, h0]
    have he : ∀ v' : Value, (v' :: args.toList.map a.eval).toArray = #[v'] ++ args.map a.eval := fun v' => by apply Array.ext'; simp
    rw [hv] at hrv
    generalize hz : a.eval r = z at hrv
    cases hrv with
    | iface _ hvv =>
      rename_i v'
      split at hg
      · rename_i f hm
        refine OpTo.call (callF_sound hfl hp hrec (F2.cons hvv hargs) hr hg) ?_
        have := methodB_sound (P := P) (w := w) hm v'
        rw [e0 v' hz, he]
        simp only [callMethod]
        simp
        rw [this]
        simp
      · split at hg
        rotate_left
        · split at hg <;> try exact absurd hg hfl
          rename_i f ty hm
          have hag : aggT P ty = some false := by
            unfold methodQ at hm
            split at hm <;> try contradiction
            split at hm <;> try contradiction
            split at hm <;> try contradiction
            rename_i hag
            cases hm
            exact hag
          obtain ⟨ad, rfl⟩ := load1_ptr hfl hg hvv
          obtain ⟨v2, v2', g1, g2, g3⟩ := load1_sound hfl hag hg hvv hr
          rw [run_loadAt_ptr] at g3
          have hmm := methodQ_sound (P := P) (w := w) (ad := ad) hm g3
          refine OpTo.call (callF_sound hfl hp hrec (F2.cons g2 hargs) hr g1) ?_
          rw [e0 _ hz, he]
          simp only [callMethod]
          simp
          rw [hmm]
          simp
        rename_i f off ty hm
        unfold fieldAddrB at hg
        split at hg <;> try exact absurd hg hfl
        rename_i b ob
        rw [fnK_eq] at hg
        cases hvv with
        | ptr hpp =>
          rename_i pl
          have hag : aggT P ty = some false := by
            unfold methodP at hm
            split at hm <;> try contradiction
            split at hm <;> try contradiction
            split at hm <;> try contradiction
            split at hm <;> try contradiction
            split at hm <;> try contradiction
            split at hm <;> try contradiction
            rename_i hag _ _
            cases hm
            exact hag
          obtain ⟨v2, v2', g1, g2, g3⟩ := load1_sound hfl hag hg (VR.ptr hpp) hr
          rw [run_loadAt_ptr, show (⟨pl.B, ob.add off, none⟩ : Addr) = (⟨pl.B, ob, none⟩ : Addr).add off from (by simp [Addr.add])] at g3
          have hmm := (methodP_sound (P := P) (w := w) (ad := ⟨pl.B, ob, none⟩) hm g3).2
          refine OpTo.call (callF_sound hfl hp hrec (F2.cons g2 hargs) hr g1) ?_
          rw [e0 _ hz, he]
          simp only [callMethod]
          simp
          rw [hmm]
          simp

end Go.Vai

namespace Go.Vai
open Go
variable {β : Type} {fl : β} {good : β → Prop} {pr : Prims β} {P : Program} {φ : Emb} {h : Heap} {w : World} {t : TypeId}

theorem compF_sound (hfl : ¬ good fl) (hp : PrimsOk good pr P) {rec : Rec β} (hrec : RunOk good P rec) {op : Op} {tm : T Value} {a : Act} (hρ : ∀ y ∈ op.operands.toList, VR φ (evv tm y) (a.eval y))
    (hr : HR P φ h w) {κ : Value → Heap → β} (hg : good (compF fl pr P op rec tm h κ)) {o : Oper} (ho : o.op = op) : OpTo good P φ h w κ ((execOp a.eval o).run P w) := by
  unfold compF at hg
  cases hR : compR fl P op with
  | some i =>
    rw [hR] at hg
    obtain ⟨v, v', g1, g2, g3⟩ := compR_sound hfl hR hρ hr hg ho
    exact .inl ⟨φ, v, v', h, w, .value v', g1, g2, hr, Ext.refl _ _ _, g3, .inl rfl⟩
  | none =>
    cases hA : compA fl P op with
    | some i =>
      simp only [hR, hA] at hg
      obtain ⟨ob, mk, O, g1, g2, g3, g4, g5⟩ := compA_sound (P := P) (w := w) (good := good) hfl hA hρ hg ho
      obtain ⟨k1, k2⟩ := newBlock_good hfl g1
      obtain ⟨m1, m2⟩ := hr.fresh k1 0 0 (g3 _) g2
      exact .inl ⟨_, _, _, _, _, .value _, k2, g4 _ _ _ (addPl_same _ _ _), m1, m2, g5, .inl rfl⟩
    | none =>
      cases hW : compW fl pr.both P op with
      | some i =>
        simp only [hR, hA, hW] at hg
        exact .inl (compW_sound hfl hp.both hW hρ hr hg ho)
      | none =>
        simp only [hR, hA, hW] at hg
        cases op with
        | call c => exact compCall_sound hfl hp hrec hρ hr hg ho
        | next it s =>
          cases s with
          | true => exact absurd hg hfl
          | false =>
            simp only [ev_eq] at hg
            obtain ⟨v, v', h', w', g1, g2, g3, g4, g5⟩ := nextB_sound (ty := o.type) hfl hp.both hr hg (hρ it (by simp [Op.operands]))
            exact .inl ⟨φ, v, v', h', w', .value v', g1, g2, g3, g4, by simp only [execOp, ho]; exact run_valued g5, .inl rfl⟩
        | _ => exact absurd hg hfl

theorem compF_defer (hfl : ¬ good fl) {rec : Rec β} {op : Op} {tm : T Value} {κ : Value → Heap → β} (hg : good (compF fl pr P op rec tm h κ)) : ∀ c, op ≠ .defer c := by
  rintro c rfl
  exact hfl hg

theorem compF_wp (hfl : ¬ good fl) (hp : PrimsOk good pr P) {rec : Rec β} (hrec : RunOk good P rec) {o : Oper} {tm : T Value} {a : Act} (hρ : ∀ y ∈ o.op.operands.toList, VR φ (evv tm y) (a.eval y))
    (hr : HR P φ h w) {κ : Value → Heap → β} (hg : good (compF fl pr P o.op rec tm h κ)) {next : Act → World → Prop} {Q : Exit → Act → World → Prop} {r0 : Option Nat}
    (hn : ∀ φ' v v' h' w', good (κ v h') → VR φ' v v' → HR P φ' h' w' → Ext φ φ' h h' w w' → next (a.put o.dst v') w') : o.wpIn (FR r0) 0 P a w next Q := by
  refine ⟨about_all, ?_⟩
  rw [Oper.semAt_eq _ _ _ (compF_defer hfl hg)]
  exact (compF_sound hfl hp hrec hρ hr hg rfl).upon hn

theorem VR.bool_of {v v' : Value} {b : Bool} (hv : VR φ v v') : (v = .bool b ↔ v' = .bool b) := by
  constructor
  · rintro rfl; cases hv; rfl
  · rintro rfl; cases hv; rfl

theorem wanted_eq {ops : Array Oper} {o : Oper} {g : Option (Nat × Bool)} (hg : guardOf ops.toList o = some g) {tm : T Value} {a : Act}
    (ht : ∀ s w, g = some (s, w) → s ∈ looksOf ops.toList o → s < a.tmps.size ∧ VR φ (tmv tm s) (a.tmps.getD s undef)) :
    Region.wanted o (yielded ops a.tmps) = wantB tm g := by
  unfold guardOf at hg
  unfold Region.wanted
  split at hg
  · rename_i hgu
    cases hg
    rw [hgu]
    rfl
  · rename_i j w hgu
    rw [hgu]
    split at hg <;> try contradiction
    rename_i d _ _ _ _ _ hq
    cases hg
    have hlk : d ∈ looksOf ops.toList o := by
      simp [looksOf, hgu, Array.getElem?_toList] at hq ⊢
      rw [hq]; simp
    obtain ⟨hlt, hr⟩ := ht d w rfl hlk
    rw [Array.getElem?_toList] at hq
    have hq' := hq
    obtain ⟨v', hv'⟩ : ∃ v', a.tmps[d]? = some v' := ⟨_, getElem?_pos a.tmps d hlt⟩
    rw [Array.getD_eq_getD_getElem?, hv', Option.getD_some] at hr
    simp only [yielded, hq', Option.bind_some, hv', wantB]
    generalize tmv tm d = v at hr
    cases hr <;> cases w <;> first | rfl | (rename_i b; cases b <;> rfl)

theorem looks_lt {ops : Array Oper} {nt : Nat} (hok : ∀ q ∈ ops.toList, operOk nt q = true) {o : Oper} (ho : o ∈ ops.toList) {s : Nat} (hs : s ∈ looksOf ops.toList o) : s < nt := by
  simp only [looksOf, List.mem_append, List.mem_filterMap] at hs
  rcases hs with ⟨y, hy, hys⟩ | hs
  · have := operOk_opn (hok o ho) y hy
    cases y <;> simp at hys
    subst hys
    exact lt_of_ble this
  · split at hs
    · rename_i g w hg
      cases hq : ops.toList[g]? with
      | none => rw [hq] at hs; simp at hs
      | some q =>
        rw [hq] at hs
        simp at hs
        have := operOk_dst (hok q (List.mem_of_getElem? hq))
        rw [hs] at this
        exact lt_of_ble this
    · cases hs

theorem runOps_sound (hfl : ¬ good fl) (hp : PrimsOk good pr P) {rec : Rec β} (hrec : RunOk good P rec) {ops : Array Oper} {nt : Nat} (hok : ∀ q ∈ ops.toList, operOk nt q = true) {κ : T Value → Heap → β}
    {r0 : Option Nat} {Q : Exit → Act → World → Prop} {ds : List Deferred} {φ0 : Emb} {h0 : Heap} {w0 : World} {tm0 : T Value}
    (hQ : ∀ tm' h' φ' a' w', good (κ tm' h') → TR φ' nt tm' a' → HR P φ' h' w' → Ext φ0 φ' h0 h' w0 w' → a'.defers = ds → (∀ t, t < nt → (∀ (i : Nat) (o : Oper), ops[i]? = some o → o.dst ≠ some t) → tmv tm' t = tmv tm0 t) → Q .normal a' w') :
    ∀ (os : List Oper) (i : Nat) (φ : Emb) (tm : T Value) (h : Heap) (a : Act) (w : World), (∀ k, os[k]? = ops[i + k]?) → TR φ nt tm a → HR P φ h w → Ext φ0 φ h0 h w0 w → a.defers = ds → (∀ t, t < nt → (∀ (i : Nat) (o : Oper), ops[i]? = some o → o.dst ≠ some t) → tmv tm t = tmv tm0 t) →
      good (runOps fl pr P rec ops.toList os tm h κ) → wpOpsIn (FR r0) 0 P ops Q (List.range' i os.length) a w := by
  intro os
  induction os with
  | nil =>
    intro i φ tm h a w _ ht hr hx hd hkp hg
    exact hQ tm h φ a w hg ht hr hx hd hkp
  | cons o os ih =>
    intro i φ tm h a w hos ht hr hx hd hkp hg
    have ho : ops[i]? = some o := by have := hos 0; simpa using this.symm
    have hos' : ∀ k, os[k]? = ops[i + 1 + k]? := fun k => by have := hos (k + 1); rw [show i + 1 + k = i + (k + 1) by omega]; simpa using this
    have hmem : o ∈ ops.toList := by
      have : ops.toList[i]? = some o := by simpa using ho
      exact List.mem_of_getElem? this
    have hoo := hok o hmem
    show wpOpsIn (FR r0) 0 P ops Q (i :: List.range' (i + 1) os.length) a w
    simp only [wpOpsIn, ho]
    have hg' : good (XO.rec (motive := fun _ => β)
      (fun g d f => Bool.rec (motive := fun _ => β) (putK tm d undef h fun tm h => runOps fl pr P rec ops.toList os tm h κ)
        (f rec tm h fun v h => putK tm d v h fun tm h => runOps fl pr P rec ops.toList os tm h κ) (wantB tm g))
      (compO fl pr P ops.toList o)) := hg
    have put_defers : ∀ (d : Option Tmp) (v : Value), (a.put d v).defers = ds := fun d v => by cases d <;> exact hd
    have kp : ∀ (v : Value) (t : Nat), t < nt → (∀ (i : Nat) (o : Oper), ops[i]? = some o → o.dst ≠ some t) → tmv (putT tm o.dst v) t = tmv tm0 t := fun v t hlt hno => by
      rw [tmv_put ht.small (operOk_dst hoo) hlt, if_neg (hno i o ho)]; exact hkp t hlt hno
    cases hgo : guardOf ops.toList o with
    | none =>
      simp only [compO, hgo] at hg'
      exact absurd hg' hfl
    | some g =>
      simp only [compO, hgo] at hg'
      rw [wanted_eq (φ := φ) (tm := tm) hgo fun s w _ hs => ⟨by rw [ht.size]; exact looks_lt hok hmem hs, ht.rel s (looks_lt hok hmem hs)⟩]
      cases hw : wantB tm g with
      | false =>
        rw [hw] at hg'
        simp only [putK_eq] at hg'
        rw [if_neg (by simp)]
        refine ⟨about_all, ?_⟩
        exact ih (i + 1) φ _ h _ w hos' (ht.put (operOk_dst hoo) VR.undef) hr hx (put_defers _ _) (kp _) hg'
      | true =>
        rw [hw] at hg'
        simp only [putK_eq] at hg'
        rw [if_pos rfl]
        refine compF_wp hfl hp hrec (fun y hy => ht.eval (operOk_opn hoo y hy)) hr hg' ?_
        intro φ' v v' h' w' g1 g2 g3 g4
        exact ih (i + 1) φ' _ h' _ w' hos' ((ht.mono g4.sub).put (operOk_dst hoo) g2) g3 (hx.trans g4) (put_defers _ _) (kp _) g1

/-- regions that draw their order are right -/
def DrawOk (good : β → Prop) (fl : β) (pr : Prims β) (P : Program) : Prop :=
  ∀ (rec : Rec β), RunOk good P rec → ∀ (ops : Array Oper) (id nt : Nat), (∀ q ∈ ops.toList, operOk nt q = true) → ∀ (φ : Emb) (tm : T Value) (h : Heap) (a : Act) (w : World) (κ : T Value → Heap → β), TR φ nt tm a → HR P φ h w →
    good (runRegion fl pr P rec ops.toList true tm h κ) → ∀ (r0 : Option Nat) (Q : Exit → Act → World → Prop),
      (∀ tm' h' φ' a' w', good (κ tm' h') → TR φ' nt tm' a' → HR P φ' h' w' → Ext φ φ' h h' w w' → a'.defers = a.defers → (∀ t, t < nt → (∀ (i : Nat) (o : Oper), ops[i]? = some o → o.dst ≠ some t) → tmv tm' t = tmv tm t) → Q .normal a' w') → (Code.region id ops true).wpIn (FR r0) 0 P Q a w

/-- a loop, from a round's start on -/
def LoopAt (r : Option Nat) (P : Program) (c : Code) (Q : Exit → Act → World → Prop) (a : Act) (w : World) : Prop :=
  ∀ (b : Frame) (k : List Item) (cs : List Frame), b.roundOf = r → (FR r).room (cs.length + 1 + 0) →
    ∃ e a' w', Q e a' w' ∧ ArrivesIn (Machine.fenced P (FR r)) P (lone (b.atR a (.code c :: .inLoop c :: k)) cs w) b k cs e a' w'

variable {ro : Option Nat}
theorem LoopAt.wp {c : Code} {Q : Exit → Act → World → Prop} {a : Act} {w : World} (h : LoopAt ro P c Q a w) : (Code.loop c).wpIn (FR ro) 0 P Q a w :=
  fun b k cs hro hb hr => let ⟨e, a', w', q, r⟩ := h b k cs hro hr; ⟨e, a', w', q, .of_steps (.one (fenced_calm hb hr rfl) stepR_loop) r⟩
theorem LoopAt.mono {c : Code} {Q Q' : Exit → Act → World → Prop} {a : Act} {w : World} (h : LoopAt ro P c Q a w) (hq : ∀ e a w, Q e a w → Q' e a w) : LoopAt ro P c Q' a w :=
  fun b k cs hro hr => let ⟨e, a', w', q, r⟩ := h b k cs hro hr; ⟨e, a', w', hq _ _ _ q, r⟩
theorem LoopAt.round {c : Code} {Q : Exit → Act → World → Prop} {a : Act} {w : World} (h : c.wpIn (FR ro) 0 P (Exit.then (LoopAt ro P c Q) Q) a w) : LoopAt ro P c Q a w := by
  intro b k cs hro hr
  have hb : (FR ro).fn b.fn := trivial
  obtain ⟨e, a₁, w₁, hq, harr⟩ := h b (.inLoop c :: k) cs hro hb hr
  cases e with
  | normal =>
    obtain ⟨e₂, a₂, w₂, hq₂, harr₂⟩ := hq b k cs hro hr
    exact ⟨e₂, a₂, w₂, hq₂, .of_steps (StepsIn.trans harr (.one (fenced_calm hb hr rfl) stepR_inLoop)) harr₂⟩
  | exit id => exact ⟨_, a₁, w₁, hq, .pass (x := .inLoop c) rfl (fun _ _ => .inl (by simp)) harr⟩
  | goto l => exact ⟨_, a₁, w₁, hq, .pass (x := .inLoop c) rfl (fun _ _ => .inl (by simp)) harr⟩
  | ret => exact ⟨_, a₁, w₁, hq, .pass (x := .inLoop c) rfl (fun _ _ => .inl (by simp)) harr⟩
  | panic ch => exact ⟨_, a₁, w₁, hq, .pass (x := .inLoop c) rfl (fun _ _ => .inl (by simp)) harr⟩
  | outgrown => exact ⟨_, a₁, w₁, hq, .pass (x := .inLoop c) rfl (fun _ _ => .inl (by simp)) harr⟩

/-- one piece behind another -/
theorem Post.after {nt : Nat} {φ1 : Emb} {h1 : Heap} {w1 : World} {a1 : Act} {ds ms : List Deferred} {κ : Ex → T Value → Heap → β} {e : Exit} {a2 : Act} {w2 : World} (hx : Ext φ φ1 h h1 w w1) (hd : a1.defers = ms ++ ds)
    (hm : Marks w.heap.size φ1 w1 w1.heap.size ms) (hp : Post good P nt φ1 h1 w1 a1.defers κ e a2 w2) : Post good P nt φ h w ds κ e a2 w2 := by
  obtain ⟨x, tm, h2, φ2, rfl, k1, k2, k3, k4, ms2, k5, k6⟩ := hp
  refine ⟨x, tm, h2, φ2, rfl, k1, k2, k3, hx.trans k4, ms2 ++ ms, by rw [k5, hd, List.append_assoc], ?_⟩
  exact (hm.mono k4 (Nat.le_refl _)).append hx.size (Nat.le_refl _) k4.size k6

theorem Post.here {nt : Nat} {tm : T Value} {a : Act} {κ : Ex → T Value → Heap → β} {x : Ex} (ht : TR φ nt tm a) (hr : HR P φ h w) (hg : good (κ x tm h)) : Post good P nt φ h w a.defers κ (exOf x) a w :=
  ⟨x, tm, h, φ, rfl, hg, ht, hr, Ext.refl _ _ _, [], rfl, trivial⟩

def RunLoopOk (good : β → Prop) (P : Program) (rec : Rec β) : Prop :=
  ∀ (c : Code) (r : Option Nat) (tm : T Value) (h : Heap) (κ : Ex → T Value → Heap → β) (φ : Emb) (w : World) (nt : Nat) (a : Act), (r = none ∨ noRf c = true) → codeOk nt c = true → TR φ nt tm a → HR P φ h w → good (rec (.loop c) tm h κ) →
    LoopAt r P c (Post good P nt φ h w a.defers κ) a w

theorem bodyLoop_sound {rec : Rec β} (hrec : RunOk good P rec) (hloop : RunLoopOk good P rec) : RunLoopOk good P (body fl pr P rec) := by
  intro c r tm h κ φ w nt a hn hc ht hr hg
  have hg' : good (rec c tm h (seqK rec (.loop c) κ)) := hg
  refine LoopAt.round (wpIn_mono (hrec c r tm h _ φ w nt a hn hc ht hr hg') ?_)
  rintro e a' w' ⟨e0, tm', h', φ', rfl, g1, g2, g3, g4, ms, g5, g6⟩
  cases e0 with
  | normal => exact (hloop c r tm' h' κ φ' w' nt a' hn hc g2 g3 g1).mono fun e a2 w2 hp => Post.after g4 g5 g6 hp
  | exit i => exact ⟨.exit i, tm', h', φ', rfl, g1, g2, g3, g4, ms, g5, g6⟩
  | ret => exact ⟨.ret, tm', h', φ', rfl, g1, g2, g3, g4, ms, g5, g6⟩

theorem noRf_or {r : Option Nat} {x y z : Code} (hn : r = none ∨ noRf z = true) (hz : noRf z = (noRf x && noRf y)) : (r = none ∨ noRf x = true) ∧ (r = none ∨ noRf y = true) := by
  rcases hn with hn | hn
  · exact ⟨.inl hn, .inl hn⟩
  · rw [hz, Bool.and_eq_true] at hn; exact ⟨.inr hn.1, .inr hn.2⟩

theorem stepR_scope {b : Frame} {a : Act} {k : List Item} {cs : List Frame} {w : World} {c : Code} :
    step P (lone (b.atR a (.code (.scope c) :: k)) cs w) = .next (lone (b.atR a (.code c :: .inScope c :: k)) cs w) :=
  step_lone_go (by simp [stepG, stepG.exec, Frame.atR])
theorem stepR_inScope {b : Frame} {a : Act} {k : List Item} {cs : List Frame} {w : World} {c : Code} : step P (lone (b.atR a (.inScope c :: k)) cs w) = .next (lone (b.atR a k) cs w) :=
  step_lone_go (by simp [stepG, stepG.exec, Frame.atR])

/-- a scope in which nothing jumps -/
theorem wpIn_scope {F : Fence} {n : Nat} {c : Code} {Q : Exit → Act → World → Prop} {a : Act} {w : World} (h : c.wpIn F n P Q a w) (hg : ∀ l a w, ¬ Q (.goto l) a w) : (Code.scope c).wpIn F n P Q a w := by
  intro b k cs hro hb hr
  have h0 : (lone (b.atR a (.code (.scope c) :: k)) cs w).fenced P F := fenced_calm hb hr rfl
  obtain ⟨e, a₁, w₁, hq, harr⟩ := h b (.inScope c :: k) cs hro hb hr
  cases e with
  | normal => exact ⟨.normal, a₁, w₁, hq, .head h0 stepR_scope (StepsIn.trans harr (.one (fenced_calm hb hr rfl) stepR_inScope))⟩
  | exit id =>
    have hx : exitTo id (.inScope c :: k) = exitTo id k := by simp [exitTo]
    exact ⟨_, a₁, w₁, hq, fun k' hk => .head h0 stepR_scope (harr.1 k' (by rw [hx]; exact hk)),
      fun hr' hk => let ⟨k₁, h1, h2⟩ := harr.2 hr' (by rw [hx]; exact hk); ⟨k₁, h1, .head h0 stepR_scope h2⟩⟩
  | goto l => exact absurd hq (hg l a₁ w₁)
  | ret => exact ⟨_, a₁, w₁, hq, .of_steps (.one h0 stepR_scope) harr⟩
  | panic ch => exact ⟨_, a₁, w₁, hq, .of_steps (.one h0 stepR_scope) harr⟩
  | outgrown => exact ⟨_, a₁, w₁, hq, .of_steps (.one h0 stepR_scope) harr⟩

/-- a range over a function -/
theorem rangeFuncB_sound (hfl : ¬ good fl) (hp : PrimsOk good pr P) {rec : Rec β} (hrec : RunOk good P rec) {g : Operand} {ps : Array Tmp} {x y : Code} {nt : Nat} {tm : T Value} {a : Act} (hc : codeOk nt (.rangeFunc g ps x y) = true) (ht : TR φ nt tm a) (hr : HR P φ h w)
    {κ : Ex → T Value → Heap → β} (hg : good (rangeFuncB fl pr P rec ps.toList x y tm h κ (evv tm g))) : (Code.rangeFunc g ps x y).wpIn (FR none) 0 P (Post good P nt φ h w a.defers κ) a w := by
  simp only [codeOk, Bool.and_eq_true] at hc
  obtain ⟨⟨⟨⟨⟨hcg, hcp⟩, hca⟩, hcb⟩, hra⟩, hrb⟩ := hc
  have hgv := ht.eval hcg
  unfold rangeFuncB at hg
  split at hg <;> try exact absurd hg hfl
  rename_i f first cap hv
  obtain ⟨hn, hg⟩ := newBlock_good hfl hg
  rw [hv] at hgv
  generalize hz : a.eval g = z at hgv
  cases hgv with
  | func fn a1 a1' b1 b1' ha hb hva hvb =>
    refine wpIn_rangeFunc fun fn0 _ => ?_
    -- two blocks
    have hx0 : Ext φ φ h h w (w.alloc (.deferred (some []))) := by
      refine ⟨Sub.refl φ, fun b pl e e' => (by rw [e] at e'; cases e'), Nat.le_refl _, by simp, fun B hB _ => alloc_get_lt hB, fun _ _ _ => rfl, rfl, rfl, rfl, fun B hB => ?_, rfl, fun _ _ => rfl, fun x o pl h1 h2 h3 h4 h5 => alloc_get_lt h5, Nat.le_refl _⟩
      rcases Nat.lt_trichotomy B w.heap.size with hl | hl | hl
      · rw [alloc_get_lt hl]; exact hB
      · subst hl; rw [alloc_get_new]; trivial
      · have : (w.alloc (.deferred (some []))).heap[B]? = none := by show (w.heap.push _)[B]? = _; simp; omega
        rw [this]; trivial
    have hr0 : HR P φ h (w.alloc (.deferred (some []))) :=
      ⟨fun b o pl h1 h2 => by rw [alloc_get_lt (hr.dom b pl h2).2]; exact hr.obj b o pl h1 h2, fun b pl h1 => ⟨(hr.dom b pl h1).1, by have := (hr.dom b pl h1).2; simp; omega⟩, hr.keys, hr.nxs, hr.inj, hr.lo⟩
    have hOR : OR P φ (.loop .ready none tm ps.toList x y) ⟨(w.alloc (.deferred (some []))).heap.size, 0, 0⟩ (some (.loop { state := .ready, pending := none, fn := fn0, tmps := a.tmps, params := ps, assign := x, body := y, defers := w.heap.size })) :=
      ⟨rfl, trivial, rfl, rfl, rfl, nt, ⟨ht.small, hcp, hca, hcb, hra, hrb⟩, ht.size, ht.rel⟩
    obtain ⟨hr1, hx1⟩ := hr0.fresh hn 0 0 hOR trivial
    have hx01 := hx0.trans hx1
    have hl : (addPl φ h.nx ⟨(w.alloc (.deferred (some []))).heap.size, 0, 0⟩) h.nx = some ⟨(w.alloc (.deferred (some []))).heap.size, 0, 0⟩ := addPl_same _ _ _
    have hmk : ∀ b pl, φ b = some pl → pl.B ≠ w.heap.size := fun b pl hb => by have := (hr.dom b pl hb).2; omega
    have hD0 : (w.alloc (.deferred (some []))).heap[w.heap.size]? = some (.deferred (some [])) := alloc_get_new
    have hD1 := hx1.frC w.heap.size (by simp) hmk
    have hmk1 := hx1.notin (D := w.heap.size) (by simp) hmk
    have hargs := (((F2.toList ha hva).imp fun _ _ r => r.mono hx1.sub).append (.cons (VR.yield hl) .nil)).append ((F2.toList hb hvb).imp fun _ _ r => r.mono hx1.sub)
    have hcall := callF_sound hfl hp hrec hargs hr1 hg
    have hM1 : Marks w.heap.size (addPl φ h.nx ⟨(w.alloc (.deferred (some []))).heap.size, 0, 0⟩) ((w.alloc (.deferred (some []))).alloc (.loop { state := .ready, pending := none, fn := fn0, tmps := a.tmps, params := ps, assign := x, body := y, defers := w.heap.size }))
        ((w.alloc (.deferred (some []))).alloc (.loop { state := .ready, pending := none, fn := fn0, tmps := a.tmps, params := ps, assign := x, body := y, defers := w.heap.size })).heap.size [{ target := .collected w.heap.size, args := #[] }] :=
      ⟨w.heap.size, rfl, Nat.le_refl _, by simp; omega, hD1.trans hD0, hmk1, trivial⟩
    have hsz : (w.alloc (.deferred (some []))).heap.size = w.heap.size + 1 := by simp
    rw [hsz] at hcall hl hx1 hx01 hM1
    refine ⟨w.heap.size + 1, [{ target := .collected w.heap.size, args := #[] }], (w.alloc (.deferred (some []))).alloc (.loop { state := .ready, pending := none, fn := fn0, tmps := a.tmps, params := ps, assign := x, body := y, defers := w.heap.size }),
      { target := .fn (.func f) b1', args := a1' ++ #[.func (.yield (w.heap.size + 1)) #[] #[]] }, ((w.alloc (.deferred (some []))).alloc (.loop { state := .ready, pending := none, fn := fn0, tmps := a.tmps, params := ps, assign := x, body := y, defers := w.heap.size })), f, _, ((w.alloc (.deferred (some []))).alloc (.loop { state := .ready, pending := none, fn := fn0, tmps := a.tmps, params := ps, assign := x, body := y, defers := w.heap.size })), run_enterLoop_outer _ _ _ _ _, ?_, fun _ _ => trivial, ?_, fun hh => (by cases hh), callsFR.2 (Calls.mono hcall.2 ?_)⟩
    · have hcst : ∀ v, a.eval (.const v) = v := fun _ => rfl
      simp [resolve, hz, Deferred.ofValue, hcst]
    · have := hcall.1
      have he : (a1'.toList ++ [Value.func (.yield (w.heap.size + 1)) #[] #[]] ++ b1'.toList).toArray = a1' ++ #[.func (.yield (w.heap.size + 1)) #[] #[]] ++ b1' := by apply Array.ext'; simp
      rw [he] at this ⊢
      simpa [invoke] using this
    · rintro e w2 ⟨φ2, v, v', h2, rfl, g1, g2, g3, g4⟩
      unfold afterLoopK at g1
      split at g1 <;> try exact absurd g1 hfl
      rename_i st pend tm2 ps2 x2 y2 hb2
      have hp2 := g4.sub _ _ hl
      obtain ⟨r2, hO2, q1, q2, q3, q4, q5, q6⟩ := g3.loopAt hb2 hp2
      split at g1
      · exact absurd g1 hfl
      rename_i hst
      obtain ⟨hlo2, g1⟩ := setBlock_good hfl g1
      obtain ⟨n1, n2⟩ := g3.loopSet (st' := .exhausted) (pend' := pend) hlo2 hb2 hp2 hO2 (pd := r2.pending) q2
      have hend := run_endLoop (P := P) hO2 (by rw [q1]; exact hst)
      have hx12 := g4.trans n2
      have hM2 := hM1.mono hx12 (Nat.le_refl _)
      have hxall := hx01.trans hx12
      have htt : TR φ2 nt tm { a with defers := [{ target := .collected w.heap.size, args := #[] }] ++ a.defers } := ⟨ht.size, ht.small, fun t hlt => (ht.rel t hlt).mono hxall.sub⟩
      have hms := hM2.le (U' := (w2.putObj (w.heap.size + 1) (.loop { r2 with state := .exhausted, pending := r2.pending })).heap.size) (by have := g4.size; simp at this ⊢; omega)
      refine ⟨r2.pending, _, hend, ?_⟩
      cases pend with
      | none =>
        have hpd : r2.pending = none := by
          cases hq : r2.pending with
          | none => rfl
          | some c => rw [hq] at q2; exact q2.elim
        rw [hpd] at n1 hxall hms ⊢
        exact ⟨.normal, tm, _, φ2, rfl, g1, htt, n1, hxall, _, rfl, hms⟩
      | some ex =>
        rcases PendR.jump q2 with ⟨rfl, hpd⟩ | ⟨i, rfl, hpd⟩
        · rw [hpd] at n1 hxall hms ⊢
          exact wpIn_ret ⟨.ret, tm, _, φ2, rfl, g1, htt, n1, hxall, _, rfl, hms⟩
        · rw [hpd] at n1 hxall hms ⊢
          exact wpIn_exit ⟨.exit i, tm, _, φ2, rfl, g1, htt, n1, hxall, _, rfl, hms⟩

theorem body_sound (hfl : ¬ good fl) (hp : PrimsOk good pr P) (hdr : DrawOk good fl pr P) {rec : Rec β} (hrec : RunOk good P rec) (hloop : RunLoopOk good P rec) : RunOk good P (body fl pr P rec) := by
  intro c r tm h κ φ w nt a hn hc ht hr hg
  cases c with
  | skip => exact wpIn_skip (Post.here (x := .normal) ht hr hg)
  | label l => exact wpIn_label (Post.here (x := .normal) ht hr hg)
  | ret => exact wpIn_ret (Post.here (x := .ret) ht hr hg)
  | exit id => exact wpIn_exit (Post.here (x := .exit id) ht hr hg)
  | region id os draw =>
    have hok : ∀ q ∈ os.toList, operOk nt q = true := by
      simp only [codeOk, List.all_eq_true] at hc; exact hc
    have hQ : ∀ tm' h' φ' a' w', good ((fun tm h => κ .normal tm h) tm' h') → TR φ' nt tm' a' → HR P φ' h' w' → Ext φ φ' h h' w w' → a'.defers = a.defers → Post good P nt φ h w a.defers κ .normal a' w' :=
      fun tm' h' φ' a' w' g1 g2 g3 g4 g5 => ⟨.normal, tm', h', φ', rfl, g1, g2, g3, g4, [], g5, trivial⟩
    cases draw with
    | false =>
      refine wpIn_region ?_
      rw [List.range_eq_range']
      have := runOps_sound (r0 := r) (tm0 := tm) hfl hp hrec hok (fun tm' h' φ' a' w' g1 g2 g3 g4 g5 _ => hQ tm' h' φ' a' w' g1 g2 g3 g4 g5) os.toList 0 φ tm h a w (fun k => by simp) ht hr (Ext.refl _ _ _) rfl (fun _ _ _ => rfl) hg
      simpa using this
    | true => exact hdr rec hrec os id nt hok φ tm h a w _ ht hr hg r _ fun tm' h' φ' a' w' g1 g2 g3 g4 g5 _ => hQ tm' h' φ' a' w' g1 g2 g3 g4 g5
  | seq x y =>
    simp only [codeOk, Bool.and_eq_true] at hc
    obtain ⟨hn1, hn2⟩ := noRf_or (x := x) (y := y) hn rfl
    have hg' : good (rec x tm h (seqK rec y κ)) := hg
    refine wpIn_seq (wpIn_mono (hrec x r tm h _ φ w nt a hn1 hc.1 ht hr hg') ?_)
    rintro e a' w' ⟨e0, tm', h', φ', rfl, g1, g2, g3, g4, ms, g5, g6⟩
    cases e0 with
    | normal => exact wpIn_mono (hrec y r tm' h' κ φ' w' nt a' hn2 hc.2 g2 g3 g1) fun e a2 w2 hp => Post.after g4 g5 g6 hp
    | exit i => exact ⟨.exit i, tm', h', φ', rfl, g1, g2, g3, g4, ms, g5, g6⟩
    | ret => exact ⟨.ret, tm', h', φ', rfl, g1, g2, g3, g4, ms, g5, g6⟩
  | cond x c1 c2 =>
    simp only [codeOk, Bool.and_eq_true] at hc
    obtain ⟨hn1, hn2⟩ := noRf_or (x := c1) (y := c2) hn rfl
    have hg' : good (ev tm x (condK fl rec c1 c2 tm h κ)) := hg
    rw [ev_eq] at hg'
    have hx := ht.eval hc.1.1
    unfold condK at hg'
    split at hg' <;> try exact absurd hg' hfl
    · rename_i hv
      rw [hv] at hx
      refine wpIn_cond_true (by generalize a.eval x = z at hx; cases hx; rfl) (hrec c1 r tm h κ φ w nt a hn1 hc.1.2 ht hr hg')
    · rename_i hv
      rw [hv] at hx
      refine wpIn_cond_false (by generalize a.eval x = z at hx; cases hx; rfl) (hrec c2 r tm h κ φ w nt a hn2 hc.2 ht hr hg')
  | block id c =>
    have hg' : good (rec c tm h (blockK id κ)) := hg
    refine wpIn_block (wpIn_mono (hrec c r tm h _ φ w nt a hn hc ht hr hg') ?_)
    rintro e a' w' ⟨e0, tm', h', φ', rfl, g1, g2, g3, g4, ms, g5, g6⟩
    cases e0 with
    | normal => exact ⟨.normal, tm', h', φ', rfl, g1, g2, g3, g4, ms, g5, g6⟩
    | ret => exact ⟨.ret, tm', h', φ', rfl, g1, g2, g3, g4, ms, g5, g6⟩
    | exit i =>
      simp only [blockK] at g1
      simp only [exOf, Exit.inBlock]
      split at g1
      · rename_i hb; have hb := beq_t hb
        rw [if_pos hb]
        exact ⟨.normal, tm', h', φ', rfl, g1, g2, g3, g4, ms, g5, g6⟩
      · rename_i hb; have hb := beq_f hb
        rw [if_neg hb]
        exact ⟨.exit i, tm', h', φ', rfl, g1, g2, g3, g4, ms, g5, g6⟩
  | scope c =>
    refine wpIn_scope (hrec c r tm h κ φ w nt a hn hc ht hr hg) ?_
    rintro l a' w' ⟨x, tm', h', φ', hx, _⟩
    cases x <;> cases hx
  | loop c =>
    exact (bodyLoop_sound (fl := fl) (pr := pr) hrec hloop c r tm h κ φ w nt a hn hc ht hr hg).wp
  | rangeFunc g ps x y =>
    have hg' : good (ev tm g (rangeFuncB fl pr P rec ps.toList x y tm h κ)) := hg
    rw [ev_eq] at hg'
    rcases hn with rfl | hn
    · exact rangeFuncB_sound hfl hp hrec hc ht hr hg'
    · cases hn
  | _ => exact absurd hg hfl

theorem run_sound (hfl : ¬ good fl) (hp : PrimsOk good pr P) (hdr : DrawOk good fl pr P) : ∀ n, RunOk good P (run fl pr P n) ∧ RunLoopOk good P (run fl pr P n) := by
  intro n
  induction n with
  | zero => exact ⟨fun c r tm h κ φ w nt a _ _ _ _ hg => absurd hg hfl, fun c r tm h κ φ w nt a _ _ _ _ hg => absurd hg hfl⟩
  | succ n ih => exact ⟨body_sound hfl hp hdr ih.1 ih.2, bodyLoop_sound ih.1 ih.2⟩

end Go.Vai

namespace Go.Vai
open Go
variable {β : Type} {fl : β} {good : β → Prop} {pr : Prims β} {P : Program} {φ : Emb} {h h' : Heap} {w : World} {t : TypeId}

/-! ## operands -/
def XI.opsL : XI β → List Operand
  | .k0 _ => []
  | .k1 x _ => [x]
  | .k2 x y _ => [x, y]
  | .k3 x y z _ => [x, y, z]
  | .kn xs _ => xs
def XA.opsL : XA β → List Operand
  | .k0 _ => []
  | .k1 x _ => [x]
  | .k2 x y _ => [x, y]
  | .kn xs _ => xs

theorem XI.congr {i : XI β} {tm tm' : T Value} (he : ∀ y ∈ i.opsL, evv tm' y = evv tm y) (h : Heap) (κ : Value → Heap → β) : i.run tm' h κ = i.run tm h κ := by
  cases i with
  | k0 f => rfl
  | k1 x f => rw [XI.run_k1, XI.run_k1, he x (by simp [XI.opsL])]
  | k2 x y f => rw [XI.run_k2, XI.run_k2, he x (by simp [XI.opsL]), he y (by simp [XI.opsL])]
  | k3 x y z f => rw [XI.run_k3, XI.run_k3, he x (by simp [XI.opsL]), he y (by simp [XI.opsL]), he z (by simp [XI.opsL])]
  | kn xs f =>
    have : xs.map (evv tm') = xs.map (evv tm) := List.map_congr_left he
    rw [XI.run_kn, XI.run_kn, this]
theorem XA.congr {i : XA β} {tm tm' : T Value} (he : ∀ y ∈ i.opsL, evv tm' y = evv tm y) (κ : AObj → (Nat → Value) → β) : i.run tm' κ = i.run tm κ := by
  cases i with
  | k0 f => rfl
  | k1 x f => rw [XA.run_k1, XA.run_k1, he x (by simp [XA.opsL])]
  | k2 x y f => rw [XA.run_k2, XA.run_k2, he x (by simp [XA.opsL]), he y (by simp [XA.opsL])]
  | kn xs f =>
    have : xs.map (evv tm') = xs.map (evv tm) := List.map_congr_left he
    rw [XA.run_kn, XA.run_kn, this]

theorem compR_ops {op : Op} {x : XI β} (hc : compR fl P op = some x) : ∀ y ∈ x.opsL, y ∈ op.operands.toList := by
  cases op <;> simp only [compR] at hc <;> (repeat' split at hc) <;> (try contradiction) <;> cases hc <;>
    simp_all [XI.opsL, Op.operands, Call.operands, splitO]

theorem compA_ops {op : Op} {x : XA β} (hc : compA fl P op = some x) : ∀ y ∈ x.opsL, y ∈ op.operands.toList := by
  cases op <;> simp only [compA] at hc <;> (repeat' split at hc) <;> (try contradiction) <;> cases hc <;>
    simp_all [XA.opsL, Op.operands]

/-! ## more blocks -/
/-- nothing is lost -/
def More (h h' : Heap) : Prop := ∀ b o, h.bl.get b = some o → h'.bl.get b = some o

theorem liveC_more (hm : More h h') {b : Nat} (hl : liveC h b = true) : liveC h' b = true := by
  unfold liveC at *
  split at hl <;> try contradiction
  rename_i hb
  rw [hm _ _ hb]

theorem eqGo_more {rec rec' : TypeId → Value → Value → Option Bool} (hrec : ∀ t x y r, rec t x y = some r → rec' t x y = some r) : ∀ (fs : List Field) (xs ys : List Value) (r : Bool),
    eqGo P rec fs xs ys = some r → eqGo P rec' fs xs ys = some r := by
  intro fs
  induction fs with
  | nil => intro xs ys r h; exact h
  | cons f fs ih =>
    intro xs ys r h
    unfold eqGo at h ⊢
    split at h <;> try contradiction
    rename_i hf
    split at h <;> try contradiction
    · rename_i s h1 h2
      split at h
      · rename_i e; simp only [hrec _ _ _ _ e]; exact ih _ _ _ h
      · rename_i r' hr'
        rw [hrec _ _ _ _ h]
        cases r with
        | true => exact absurd h (by simpa using hr')
        | false => rfl
    · rename_i s h1 h2
      split at h <;> try contradiction
      rename_i x y hx hy
      split at h
      · rename_i e; simp only [hrec _ _ _ _ e]; exact ih _ _ _ h
      · rename_i r' hr'
        rw [hrec _ _ _ _ h]
        cases r with
        | true => exact absurd h (by simpa using hr')
        | false => rfl

theorem eqB_more (hm : More h h') : ∀ (d : Nat) (t : TypeId) (x y : Value) (r : Bool), eqB P h d t x y = some r → eqB P h' d t x y = some r := by
  intro d
  induction d with
  | zero => intro t x y r h; exact h
  | succ d ih =>
    intro t x y r hh
    unfold eqB at hh ⊢
    split at hh <;> try contradiction
    all_goals try exact hh
    · split at hh <;> try contradiction
      split at hh <;> try contradiction
      rename_i l1 l2
      simp only [liveC_more hm l1, liveC_more hm l2]
      exact hh
    · split at hh <;> try contradiction
      exact eqGo_more ih _ _ _ _ hh

theorem findB_more (hm : More h h') {kt : TypeId} {k : Value} : ∀ (es : List MapEntry) (i : Nat) (r : Option (Nat × MapEntry)), findB P h kt k es i = some r → findB P h' kt k es i = some r := by
  intro es
  induction es with
  | nil => intro i r h; exact h
  | cons e es ih =>
    intro i r hh
    unfold findB at hh ⊢
    split at hh <;> try contradiction
    · rename_i he; simp only [eqB_more hm _ _ _ _ _ he]; exact hh
    · rename_i he; simp only [eqB_more hm _ _ _ _ _ he]; exact ih _ _ hh

theorem knownOf_more (hm : More h h') {e : TypeId} {b n : Nat} (hk : knownOf h e b = some n) : knownOf h' e b = some n := by
  unfold knownOf at *
  split at hk <;> try contradiction
  · rename_i hb; rw [hm _ _ hb]; exact hk
  · rename_i hb; rw [hm _ _ hb]; exact hk

theorem compR_more {op : Op} {x : OXI} (hc : compR none P op = some x) (hm : More h h') {tm : T Value} {v : Value} (hr : readO x tm h = some v) : readO x tm h' = some v := by
  unfold readO at *
  cases op <;> simp only [compR] at hc <;> try (cases hc; done)
  case load t a =>
    split at hc <;> try contradiction
    · cases hc; rw [XI.run_k1] at hr ⊢
      unfold loadA at hr ⊢
      split at hr <;> try contradiction
      split at hr <;> try contradiction
      · rename_i hb
        simp only [hm _ _ hb]; exact hr
      · rename_i hb
        simp only [hm _ _ hb]; exact hr
    · cases hc; rw [XI.run_k1] at hr ⊢
      unfold load1 at hr ⊢
      split at hr <;> try contradiction
      split at hr <;> try contradiction
      · rename_i hb
        simp only [hm _ _ hb]; exact hr
      · rename_i hb
        simp only [hm _ _ hb]; exact hr
  case binOp op t x y t2 =>
    cases hc; rw [XI.run_k2] at hr ⊢
    have hq : ∀ t a b r, eqB P h 100 t a b = some r → eqB P h' 100 t a b = some r := eqB_more hm 100
    unfold binB at hr ⊢
    split at hr <;> try contradiction
    · exact hr
    · exact hr
    · split at hr <;> try contradiction
      · split at hr <;> try contradiction
        rename_i he; simp only [hq _ _ _ _ he]; exact hr
      · split at hr <;> try contradiction
        rename_i he; simp only [hq _ _ _ _ he]; exact hr
    · split at hr <;> try contradiction
      · split at hr <;> try contradiction
        rename_i he; simp only [hq _ _ _ _ he]; exact hr
      · split at hr <;> try contradiction
        rename_i he; simp only [hq _ _ _ _ he]; exact hr
  case slice t x lo hi mx =>
    split at hc <;> try contradiction
    · split at hc <;> try contradiction
      cases hc; rw [XI.run_kn] at hr ⊢
      split at hr <;> try contradiction
      split at hr <;> try contradiction
      unfold sliceB at hr ⊢
      split at hr <;> try contradiction
      · exact hr
      · split at hr <;> try contradiction
        · exact hr
        · split at hr <;> try contradiction
          · exact hr
          · split at hr <;> try contradiction
            rename_i hk _
            simp only [knownOf_more hm hk]
            exact hr
    · cases hc; rw [XI.run_kn] at hr ⊢
      exact hr
  case lookup t x i ok =>
    split at hc <;> try contradiction
    split at hc <;> try contradiction
    split at hc <;> try contradiction
    cases hc; rw [XI.run_k2] at hr ⊢
    unfold lookupB lookupE at hr ⊢
    split at hr <;> try contradiction
    split at hr <;> try contradiction
    · exact hr
    · split at hr <;> try contradiction
      rename_i hb
      simp only [hm _ _ hb]
      split at hr <;> try contradiction
      · rename_i hf; simp only [findB_more hm _ _ _ hf]; exact hr
      · rename_i hf; simp only [findB_more hm _ _ _ hf]; exact hr
  case call c =>
    split at hc <;> try contradiction
    · split at hc <;> try contradiction
      split at hc <;> try contradiction
      · cases hc; exact hr
      · cases hc; exact hr
      · cases hc; rw [XI.run_k1] at hr ⊢
        unfold lenMap at hr ⊢
        split at hr <;> try contradiction
        · exact hr
        · split at hr <;> try contradiction
          rename_i hb
          simp only [hm _ _ hb]; exact hr
    · split at hc <;> try contradiction
      cases hc; rw [XI.run_k2] at hr ⊢
      unfold minB at hr ⊢
      split at hr <;> try contradiction
      split at hr <;> exact hr
    · split at hc <;> try contradiction
      cases hc; rw [XI.run_k2] at hr ⊢
      unfold maxB at hr ⊢
      split at hr <;> try contradiction
      split at hr <;> exact hr
  all_goals ((repeat' split at hc) <;> (try contradiction) <;> cases hc <;> exact hr)

end Go.Vai

namespace Go.Vai
open Go
variable {β : Type} {fl : β} {good : β → Prop} {pr : Prims β} {P : Program} {φ : Emb} {h h' : Heap} {w : World} {t : TypeId}

theorem itemsOf_mem : ∀ (os : List Oper) (n k : Nat) (q : Oper), os[k]? = some q → (n + k, q) ∈ itemsOf os n := by
  intro os
  induction os with
  | nil => intro n k q h; simp at h
  | cons o os ih =>
    intro n k q h
    cases k with
    | zero => simp at h; subst h; exact List.mem_cons_self
    | succ k =>
      simp at h
      have := ih (n + 1) k q h
      rw [show n + (k + 1) = n + 1 + k by omega]
      exact List.mem_cons_of_mem _ this

theorem bit_setBit (D i k : Nat) : bit (setBit D i) k = (bit D k || decide (i = k)) := by
  show Nat.testBit (D ||| 2 ^ i) k = _
  rw [Nat.testBit_or, Nat.testBit_two_pow]
  rfl
theorem bit_or (D M k : Nat) : bit (Nat.lor D M) k = (bit D k || bit M k) := Nat.testBit_or ..
theorem bit_zero (k : Nat) : bit 0 k = false := Nat.zero_testBit k

theorem clsOf_rd {op : Op} {x : OXI} (h : clsOf P op = .rd x) : compR none P op = some x := by
  unfold clsOf at h
  split at h <;> try contradiction
  split at h
  · rename_i e; cases h; exact e
  · split at h <;> contradiction
theorem clsOf_al {op : Op} {x : OXA} (h : clsOf P op = .al x) : compA none P op = some x := by
  unfold clsOf at h
  split at h <;> try contradiction
  split at h <;> try contradiction
  split at h <;> try contradiction
  rename_i e; cases h; exact e

structure Stat (P : Program) (ops : Array Oper) (i : Nat) (o : Oper) : Prop where
  k1 : ∀ j q, ops[j]? = some q → isWr P q = false → ∀ t ∈ looksOf ops.toList o, q.dst = some t → j ∈ predsOf o
  k2 : isWr P o = false → ∀ j q, ops[j]? = some q → j ≠ i → isWr P q = false → ∀ d, o.dst = some d → q.dst ≠ some d

theorem mem0 {ops : Array Oper} {j : Nat} {q : Oper} (h : ops[j]? = some q) : (j, q) ∈ itemsOf ops.toList 0 := by
  have := itemsOf_mem ops.toList 0 j q (by rw [Array.getElem?_toList]; exact h)
  simpa using this

theorem dstIs_iff {o : Oper} {t : Nat} : dstIs o t = true ↔ o.dst = some t := by
  unfold dstIs
  cases o.dst with
  | none => simp
  | some d => simp

theorem okAt_sound {ops : Array Oper} {D M i : Nat} {o : Oper} (h : okAt P ops.toList (itemsOf ops.toList 0) D M i o = true) :
    bit D i = false ∧ (∀ e ∈ predsOf o, bit D e = true) ∧ (∃ g, guardOf ops.toList o = some g) ∧ Stat P ops i o ∧
    (isWr P o = true → (∀ k q, ops[k]? = some q → k ≠ i → bit D k = false → readyB D q = false) ∧
      ∀ k q, ops[k]? = some q → bit D k = true → isWr P q = false → bit M k = false → ∀ d, o.dst = some d → q.dst ≠ some d ∧ d ∉ looksOf ops.toList q) := by
  unfold okAt at h
  simp only [Bool.and_eq_true] at h
  obtain ⟨⟨⟨⟨h1, h2⟩, h3⟩, h4⟩, h5⟩ := h
  simp only [List.all_eq_true] at h4
  refine ⟨by simpa using h1, ?_, Option.isSome_iff_exists.mp h3, ⟨?_, ?_⟩, ?_⟩
  · simpa [readyB, List.all_eq_true] using h2
  · intro j q hq hw t ht hd
    have := h4 _ (mem0 hq)
    simp only [Bool.or_eq_true] at this
    rcases this with (this | this) | this
    · rw [hw] at this; cases this
    · have hx : (looksOf ops.toList o).any (dstIs q) = true := List.any_eq_true.mpr ⟨t, ht, dstIs_iff.mpr hd⟩
      rw [hx] at this; cases this
    · simpa using this
  · intro hw j q hq hji hqw d hd hqd
    rw [hw] at h5
    simp only [List.all_eq_true] at h5
    have := h5 _ (mem0 hq)
    simp only [Bool.or_eq_true] at this
    rcases this with (this | this) | this
    · exact hji (by simpa using this)
    · rw [hqw] at this; cases this
    · rw [hd] at this; simp [dstIs_iff.mpr hqd] at this
  · intro hw
    rw [hw] at h5
    simp only [Bool.and_eq_true, List.all_eq_true] at h5
    refine ⟨?_, ?_⟩
    · intro k q hq hki hk
      have := h5.1 _ (mem0 hq)
      simp only [Bool.or_eq_true] at this
      rcases this with (this | this) | this
      · exact absurd (by simpa using this) hki
      · rw [hk] at this; cases this
      · simpa using this
    · intro k q hq hk hqw hm d hd
      have := h5.2 _ (mem0 hq)
      simp only [Bool.or_eq_true] at this
      rcases this with ((this | this) | this) | this
      · rw [hk] at this; cases this
      · rw [hqw] at this; cases this
      · rw [hm] at this; cases this
      · rw [hd] at this
        simp only [Bool.and_eq_true] at this
        refine ⟨fun e => ?_, fun hmem => ?_⟩
        · rw [dstIs_iff.mpr e] at this; simp at this
        · have hx : (looksOf ops.toList q).any (Nat.beq d) = true := List.any_eq_true.mpr ⟨d, hmem, by simp⟩
          rw [hx] at this; simp at this

theorem guard_looks {ops : Array Oper} {o : Oper} {s : Nat} {b : Bool} (hg : guardOf ops.toList o = some (some (s, b))) : s ∈ looksOf ops.toList o := by
  unfold guardOf at hg
  split at hg
  · cases hg
  rename_i j w hgu
  split at hg <;> try contradiction
  rename_i hq
  cases hg
  simp only [looksOf, hgu, List.mem_append]
  right
  rw [hq]; simp

theorem operand_looks {os : List Oper} {o : Oper} {t : Nat} (h : Operand.tmp t ∈ o.op.operands.toList) : t ∈ looksOf os o := by
  simp only [looksOf, List.mem_append, List.mem_filterMap]
  exact .inl ⟨_, h, rfl⟩

theorem evv_same {os : List Oper} {o : Oper} {tm tm' : T Value} (h : ∀ t ∈ looksOf os o, tmv tm' t = tmv tm t) : ∀ y ∈ o.op.operands.toList, evv tm' y = evv tm y := by
  intro y hy
  cases y with
  | tmp t => exact h t (operand_looks hy)
  | _ => rfl

theorem want_same {ops : Array Oper} {o : Oper} {g : Option (Nat × Bool)} (hg : guardOf ops.toList o = some g) {tm tm' : T Value} (h : ∀ t ∈ looksOf ops.toList o, tmv tm' t = tmv tm t) : wantB tm' g = wantB tm g := by
  cases g with
  | none => rfl
  | some p => obtain ⟨s, b⟩ := p; simp only [wantB, h s (guard_looks hg)]

/-- an operation done ahead: what it came to -/
def Pend (P : Program) (ops : Array Oper) (own : Nat → Option Nat) (h0 : Heap) (φ : Emb) (h : Heap) (tm : T Value) (i : Nat) (o : Oper) : Prop :=
  ∃ g, guardOf ops.toList o = some g ∧ (wantB tm g = false → ∀ d, o.dst = some d → tmv tm d = undef) ∧
    (wantB tm g = true → match clsOf P o.op with
      | .rd x => ∃ v, readO x tm h = some v ∧ ∀ d, o.dst = some d → tmv tm d = v
      | .al x => ∃ n ob mk, own n = some i ∧ makeO x tm = some (ob, mk) ∧ h.bl.get n = some ob ∧ φ n = none ∧ n < h.nx ∧ h0.nx ≤ n ∧ ∀ d, o.dst = some d → tmv tm d = mk n
      | .wr => False)

theorem Pend.keep {ops : Array Oper} {own own' : Nat → Option Nat} {h0 : Heap} {φ' : Emb} {tm tm' : T Value} {i : Nat} {o : Oper} (hp : Pend P ops own h0 φ h tm i o)
    (hl : ∀ t ∈ looksOf ops.toList o, tmv tm' t = tmv tm t) (hd : ∀ d, o.dst = some d → tmv tm' d = tmv tm d)
    (hrd : ∀ x v g, clsOf P o.op = .rd x → guardOf ops.toList o = some g → wantB tm' g = true → readO x tm h = some v → (∀ d, o.dst = some d → tmv tm' d = v) → ∃ v', readO x tm' h' = some v' ∧ ∀ d, o.dst = some d → tmv tm' d = v')
    (hal : ∀ n ob, own n = some i → h.bl.get n = some ob → φ n = none → n < h.nx → h0.nx ≤ n → own' n = some i ∧ h'.bl.get n = some ob ∧ φ' n = none ∧ n < h'.nx) :
    Pend P ops own' h0 φ' h' tm' i o := by
  obtain ⟨g, hg, h1, h2⟩ := hp
  have hw := want_same hg hl
  refine ⟨g, hg, fun hf d hdd => by rw [hd d hdd]; exact h1 (hw ▸ hf) d hdd, fun ht => ?_⟩
  have h2 := h2 (hw ▸ ht)
  cases hc : clsOf P o.op with
  | rd x =>
    rw [hc] at h2
    obtain ⟨v, k1, k2⟩ := h2
    exact hrd x v g hc hg ht k1 fun d hdd => by rw [hd d hdd]; exact k2 d hdd
  | al x =>
    rw [hc] at h2
    obtain ⟨n, ob, mk, k1, k2, k3, k4, k5, k6, k7⟩ := h2
    obtain ⟨j1, j2, j3, j4⟩ := hal n ob k1 k3 k4 k5 k6
    refine ⟨n, ob, mk, j1, ?_, j2, j3, j4, k6, fun d hdd => by rw [hd d hdd]; exact k7 d hdd⟩
    unfold makeO at *
    rw [XA.congr (fun y hy => evv_same hl y (compA_ops (clsOf_al hc) y hy))]
    exact k2
  | wr => rw [hc] at h2; exact h2.elim

abbrev inS (listed : Array Bool) (i : Nat) : Prop := listed.getD i false = true

structure Inv (P : Program) (ops : Array Oper) (nt : Nat) (φ0 : Emb) (h0 : Heap) (w0 : World) (ds : List Deferred) (tm0 : T Value) (listed : Array Bool) (D M : Nat) (tm : T Value) (h : Heap) (own : Nat → Option Nat) (φ : Emb) (a : Act) (w : World) : Prop where
  lsz : listed.size = ops.size
  sub : ∀ i, inS listed i → bit D i = true
  clo : ∀ i o, ops[i]? = some o → inS listed i → ∀ e ∈ predsOf o, inS listed e
  wr : ∀ i o, ops[i]? = some o → bit D i = true → isWr P o = true → inS listed i
  mS : ∀ i, bit M i = true → inS listed i
  st : ∀ i o, ops[i]? = some o → bit D i = true → Stat P ops i o ∧ ∀ e ∈ predsOf o, bit D e = true
  small : nt ≤ 1000000000000
  size : a.tmps.size = nt
  rel : ∀ t, t < nt → (∀ i o, ops[i]? = some o → bit D i = true → ¬ inS listed i → o.dst ≠ some t) → VR φ (tmv tm t) (a.tmps.getD t undef)
  hr : HR P φ h w
  ext : Ext φ0 φ h0 h w0 w
  dfs : a.defers = ds
  pend : ∀ i o, ops[i]? = some o → bit D i = true → ¬ inS listed i → Pend P ops own h0 φ h tm i o
  keep : ∀ t, t < nt → (∀ (i : Nat) (o : Oper), ops[i]? = some o → o.dst ≠ some t) → tmv tm t = tmv tm0 t

section
variable {ops : Array Oper} {nt : Nat} {φ0 : Emb} {h0 : Heap} {w0 : World} {ds : List Deferred} {listed : Array Bool} {D M : Nat} {tm tm0 : T Value} {own : Nat → Option Nat} {a : Act}

/-- one that reads or makes is done ahead -/
theorem Inv.ahead (inv : Inv P ops nt φ0 h0 w0 ds tm0 listed D M tm h own φ a w) (hok : ∀ q ∈ ops.toList, operOk nt q = true) {i : Nat} {o : Oper} (ho : ops[i]? = some o) (hD : bit D i = false) (hpr : ∀ e ∈ predsOf o, bit D e = true)
    (hst : Stat P ops i o) (hw : isWr P o = false) {v : Value} {h' : Heap} {own' : Nat → Option Nat} (hr' : HR P φ h' w) (hx' : Ext φ0 φ h0 h' w0 w) (hm : More h h') (hnx : h.nx ≤ h'.nx) (hown : ∀ n, n < h.nx → own' n = own n)
    (hpe : Pend P ops own' h0 φ h' (putT tm o.dst v) i o) : Inv P ops nt φ0 h0 w0 ds tm0 listed (setBit D i) M (putT tm o.dst v) h' own' φ a w := by
  have hmem : o ∈ ops.toList := List.mem_of_getElem? (by rw [Array.getElem?_toList]; exact ho)
  have hnS : ¬ inS listed i := fun hs => by rw [inv.sub i hs] at hD; cases hD
  have hdst := operOk_dst (hok o hmem)
  refine ⟨inv.lsz, ?_, inv.clo, ?_, inv.mS, ?_, inv.small, inv.size, ?_, hr', hx', inv.dfs, ?_, fun t ht hno => by rw [tmv_put inv.small hdst ht, if_neg (hno i o ho)]; exact inv.keep t ht hno⟩
  · intro k hk; rw [bit_setBit, inv.sub k hk]; rfl
  · intro k q hq hk hkw
    rw [bit_setBit, Bool.or_eq_true] at hk
    rcases hk with hk | hk
    · exact inv.wr k q hq hk hkw
    · have hk : i = k := by simpa using hk
      subst hk; rw [ho] at hq; cases hq; rw [hw] at hkw; cases hkw
  · intro k q hq hk
    rw [bit_setBit, Bool.or_eq_true] at hk
    have up : ∀ {e}, bit D e = true → bit (setBit D i) e = true := fun he => by rw [bit_setBit, he]; rfl
    rcases hk with hk | hk
    · exact ⟨(inv.st k q hq hk).1, fun e he => up ((inv.st k q hq hk).2 e he)⟩
    · have hk : i = k := by simpa using hk
      subst hk; rw [ho] at hq; cases hq; exact ⟨hst, fun e he => up (hpr e he)⟩
  · intro t ht hno
    have h1 : o.dst ≠ some t := hno i o ho (by rw [bit_setBit]; simp) hnS
    rw [tmv_put inv.small hdst ht, if_neg h1]
    exact inv.rel t ht fun k q hq hk hkS => hno k q hq (by rw [bit_setBit, hk]; rfl) hkS
  · intro k q hq hk hkS
    rw [bit_setBit, Bool.or_eq_true] at hk
    by_cases hki : i = k
    · subst hki; rw [ho] at hq; cases hq; exact hpe
    · have hk : bit D k = true := by
        rcases hk with hk | hk
        · exact hk
        · exact absurd (by simpa using hk) hki
      have hqw : isWr P q = false := by
        cases hqw : isWr P q with
        | false => rfl
        | true => exact absurd (inv.wr k q hq hk hqw) hkS
      have hqm : q ∈ ops.toList := List.mem_of_getElem? (by rw [Array.getElem?_toList]; exact hq)
      have hl : ∀ t ∈ looksOf ops.toList q, tmv (putT tm o.dst v) t = tmv tm t := by
        intro t ht
        rw [tmv_put inv.small hdst (looks_lt hok hqm ht), if_neg]
        intro he
        have := (inv.st k q hq hk).2 i ((inv.st k q hq hk).1.k1 i o ho hw t ht he)
        rw [this] at hD; cases hD
      have hd : ∀ d, q.dst = some d → tmv (putT tm o.dst v) d = tmv tm d := by
        intro d hdd
        have hlt : d < nt := by have := operOk_dst (hok q hqm); rw [hdd] at this; exact lt_of_ble this
        rw [tmv_put inv.small hdst hlt, if_neg]
        intro he
        exact hst.k2 hw k q hq (fun e => hki e.symm) hqw d he hdd
      refine (inv.pend k q hq hk hkS).keep hl hd ?_ ?_
      · intro x v' g hc hg hwt hrd hdv
        refine ⟨v', ?_, hdv⟩
        have := compR_more (clsOf_rd hc) hm hrd
        unfold readO at *
        rw [XI.congr (fun y hy => evv_same hl y (compR_ops (clsOf_rd hc) y hy))]
        exact this
      · intro n ob e1 e2 e3 e4 e5
        exact ⟨by rw [hown n e4]; exact e1, hm n ob e2, e3, Nat.lt_of_lt_of_le e4 hnx⟩

end
end Go.Vai

namespace Go.Vai
open Go
variable {β : Type} {fl : β} {good : β → Prop} {pr : Prims β} {P : Program} {φ : Emb} {h h' : Heap} {w : World} {t : TypeId}
variable {ops : Array Oper} {nt : Nat} {φ0 : Emb} {h0 : Heap} {w0 : World} {ds : List Deferred} {listed : Array Bool} {D M : Nat} {tm tm0 : T Value} {own : Nat → Option Nat} {a : Act}

theorem keyF_long : ∀ (f n : Nat), 2 ^ f ≤ n + 1 → (keyF f n).length = f := by
  intro f
  induction f with
  | zero => intro n _; rfl
  | succ f ih =>
    intro n hn
    have h0 : n ≠ 0 := by rintro rfl; have := Nat.one_lt_two_pow (n := f + 1) (by omega); omega
    rw [keyF_succ, if_neg h0, List.length_cons, ih]
    rw [Nat.pow_succ] at hn
    omega
theorem keyF_short : ∀ (f n : Nat), n + 1 < 2 ^ f → (keyF f n).length < f := by
  intro f
  induction f with
  | zero => intro n hn; simp at hn
  | succ f ih =>
    intro n hn
    rw [keyF_succ]
    split
    · simp
    · rw [List.length_cons]
      have := ih ((n - 1) / 2) (by rw [Nat.pow_succ] at hn; omega)
      omega

theorem More.refl (h : Heap) : More h h := fun _ _ e => e

theorem inS_set {i k : Nat} (hi : i < listed.size) : inS (listed.setIfInBounds i true) k ↔ k = i ∨ inS listed k := by
  unfold inS
  simp only [Array.getD_eq_getD_getElem?]
  by_cases he : i = k
  · subst he; simp [Array.getElem?_setIfInBounds_self_of_lt hi]
  · rw [Array.getElem?_setIfInBounds_ne he]
    constructor
    · exact fun h => .inr h
    · rintro (h | h)
      · exact absurd h.symm he
      · exact h

theorem put_getD {a : Act} {d : Option Nat} {v : Value} {t : Nat} (ht : t < a.tmps.size) : (a.put d v).tmps.getD t undef = if d = some t then v else a.tmps.getD t undef := by
  cases d with
  | none => simp [Act.put]
  | some d =>
    simp only [Act.put, Array.getD_eq_getD_getElem?]
    by_cases he : d = t
    · subst he; rw [if_pos rfl, Array.getElem?_setIfInBounds_self_of_lt ht]; rfl
    · rw [if_neg (by simpa using he), Array.getElem?_setIfInBounds_ne he]
theorem put_size {a : Act} {d : Option Nat} {v : Value} : (a.put d v).tmps.size = a.tmps.size := by cases d <;> simp [Act.put]
theorem put_dfs {a : Act} {d : Option Nat} {v : Value} : (a.put d v).defers = a.defers := by cases d <;> rfl

theorem isWr_of_rd {o : Oper} {x : OXI} (h : clsOf P o.op = .rd x) : isWr P o = false := by unfold isWr; rw [h]
theorem isWr_of_al {o : Oper} {x : OXA} (h : clsOf P o.op = .al x) : isWr P o = false := by unfold isWr; rw [h]
theorem isWr_true {o : Oper} (h : isWr P o = true) : clsOf P o.op = .wr := by
  unfold isWr at h
  split at h
  · assumption
  · cases h

theorem memO {i : Nat} {o : Oper} (ho : ops[i]? = some o) : o ∈ ops.toList := List.mem_of_getElem? (by rw [Array.getElem?_toList]; exact ho)

/-- an operation that does not write, ahead of the real run -/
theorem Inv.advance (hfl : ¬ good fl) (inv : Inv P ops nt φ0 h0 w0 ds tm0 listed D M tm h own φ a w) (hok : ∀ q ∈ ops.toList, operOk nt q = true) {rec : Rec β} {i : Nat} {o : Oper} (ho : ops[i]? = some o) (hD : bit D i = false)
    (hpr : ∀ e ∈ predsOf o, bit D e = true) (hst : Stat P ops i o) (hw : isWr P o = false) {M' : Nat} {κ : T Value → Heap → β} (hg : good (stepPlan fl pr P rec ops.toList D M' o tm h κ)) :
    ∃ tm' h' own', Inv P ops nt φ0 h0 w0 ds tm0 listed (setBit D i) M tm' h' own' φ a w ∧ good (κ tm' h') := by
  have hdst := operOk_dst (hok o (memO ho))
  have hl : ∀ v, ∀ t ∈ looksOf ops.toList o, tmv (putT tm o.dst v) t = tmv tm t := by
    intro v t ht
    rw [tmv_put inv.small hdst (looks_lt hok (memO ho) ht), if_neg]
    intro he
    have := hpr i (hst.k1 i o ho hw t ht he)
    rw [this] at hD; cases hD
  have hdv : ∀ v d, o.dst = some d → tmv (putT tm o.dst v) d = v := by
    intro v d hd
    have hlt : d < nt := by rw [hd] at hdst; exact lt_of_ble hdst
    rw [tmv_put inv.small hdst hlt, if_pos hd]
  unfold stepPlan at hg
  split at hg
  · exact absurd hg hfl
  rename_i g hgo
  split at hg
  · rename_i hwt
    rw [putK_eq] at hg
    refine ⟨_, _, own, inv.ahead hok ho hD hpr hst hw inv.hr inv.ext (More.refl h) (Nat.le_refl _) (fun _ _ => rfl) ?_, hg⟩
    refine ⟨g, hgo, fun _ d hd => hdv _ d hd, fun ht => ?_⟩
    rw [want_same hgo (hl _), hwt] at ht; cases ht
  · rename_i hwt
    split at hg
    · rename_i x hc
      split at hg
      · rename_i v hv
        rw [putK_eq] at hg
        refine ⟨_, _, own, inv.ahead hok ho hD hpr hst hw inv.hr inv.ext (More.refl h) (Nat.le_refl _) (fun _ _ => rfl) ?_, hg⟩
        refine ⟨g, hgo, fun hf => ?_, fun _ => ?_⟩
        · rw [want_same hgo (hl _), hwt] at hf; cases hf
        · rw [hc]
          refine ⟨v, ?_, fun d hd => hdv _ d hd⟩
          unfold readO at *
          rw [XI.congr (fun y hy => evv_same (hl v) y (compR_ops (clsOf_rd hc) y hy))]
          exact hv
      · exact absurd hg hfl
    · rename_i x hc
      split at hg
      · rename_i ob mk hv
        obtain ⟨hn, hg⟩ := newBlock_good hfl hg
        rw [putK_eq] at hg
        have hs : Small h.nx := by unfold Small; omega
        have hnone : φ h.nx = none := by
          cases hp : φ h.nx with
          | none => rfl
          | some pl => have := (inv.hr.dom _ _ hp).1; omega
        refine ⟨_, _, (fun n => if n = h.nx then some i else own n), inv.ahead hok ho hD hpr hst hw (inv.hr.unborn hn ob) (inv.ext.unborn inv.hr.lo hn ob) ?_ (Nat.le_succ _) (fun n hn => if_neg (by omega)) ?_, hg⟩
        · intro b o' hb
          by_cases hsb : Small b
          · have := inv.hr.keys b o' hsb hb
            show (h.bl.upd h.nx ob).get b = some o'
            rw [T.get_upd_ne _ _ hs hsb (by omega)]
            exact hb
          · show (h.bl.upd h.nx ob).get b = some o'
            exact absurd (Nat.lt_succ_self b) hsb
        · refine ⟨g, hgo, fun hf => ?_, fun _ => ?_⟩
          · rw [want_same hgo (hl _), hwt] at hf; cases hf
          · rw [hc]
            refine ⟨h.nx, ob, mk, if_pos rfl, ?_, T.get_upd_same _ _ _, hnone, Nat.lt_succ_self _, inv.ext.nx, fun d hd => hdv _ d hd⟩
            unfold makeO at *
            rw [XA.congr (fun y hy => evv_same (hl _) y (compA_ops (clsOf_al hc) y hy))]
            exact hv
      · exact absurd hg hfl
    · rename_i hc
      rw [isWr, hc] at hw; cases hw

/-- the real run has come to an operation that was done ahead -/
theorem Inv.done (inv : Inv P ops nt φ0 h0 w0 ds tm0 listed D M tm h own φ a w) (hok : ∀ q ∈ ops.toList, operOk nt q = true) {i : Nat} {o : Oper} (ho : ops[i]? = some o) (hD : bit D i = true) (hpS : ∀ e ∈ predsOf o, inS listed e)
    {φ' : Emb} {w' : World} {v' : Value} (hv : ∀ d, o.dst = some d → VR φ' (tmv tm d) v') (hs : Sub φ φ') (hr' : HR P φ' h w') (hx' : Ext φ0 φ' h0 h w0 w') (hφ : ∀ n, own n ≠ some i → φ n = none → φ' n = none) :
    Inv P ops nt φ0 h0 w0 ds tm0 (listed.setIfInBounds i true) D M tm h own φ' (a.put o.dst v') w' := by
  have hil : i < listed.size := by rw [inv.lsz]; exact (Array.getElem?_eq_some_iff.mp ho).1
  refine ⟨by simp [inv.lsz], ?_, ?_, ?_, ?_, inv.st, inv.small, by rw [put_size]; exact inv.size, ?_, hr', hx', by rw [put_dfs]; exact inv.dfs, ?_, inv.keep⟩
  · intro k hk
    rcases (inS_set hil).mp hk with rfl | hk
    · exact hD
    · exact inv.sub k hk
  · intro k q hq hk e he
    rw [inS_set hil]
    rcases (inS_set hil).mp hk with rfl | hk
    · rw [ho] at hq; cases hq; exact .inr (hpS e he)
    · exact .inr (inv.clo k q hq hk e he)
  · intro k q hq hk hkw; rw [inS_set hil]; exact .inr (inv.wr k q hq hk hkw)
  · intro k hk; rw [inS_set hil]; exact .inr (inv.mS k hk)
  · intro t ht hno
    rw [put_getD (by rw [inv.size]; exact ht)]
    by_cases hd : o.dst = some t
    · rw [if_pos hd]; exact hv t hd
    · rw [if_neg hd]
      refine (inv.rel t ht fun k q hq hk hkS => ?_).mono hs
      by_cases hki : k = i
      · subst hki; rw [ho] at hq; cases hq; exact hd
      · exact hno k q hq hk (fun hh => by rcases (inS_set hil).mp hh with h1 | h1 <;> contradiction)
  · intro k q hq hk hkS
    rw [inS_set hil] at hkS
    have hki : k ≠ i := fun e => hkS (.inl e)
    have hkS' : ¬ inS listed k := fun e => hkS (.inr e)
    refine (inv.pend k q hq hk hkS').keep (fun _ _ => rfl) (fun _ _ => rfl) (fun x v g _ _ _ e1 e2 => ⟨v, e1, e2⟩) ?_
    intro n ob e1 e2 e3 e4 e5
    exact ⟨e1, e2, hφ n (by rw [e1]; intro hh; cases hh; exact hki rfl) e3, e4⟩

theorem Inv.looks (inv : Inv P ops nt φ0 h0 w0 ds tm0 listed D M tm h own φ a w) (hok : ∀ q ∈ ops.toList, operOk nt q = true) {i : Nat} {o : Oper} (ho : ops[i]? = some o) (hst : Stat P ops i o) (hpS : ∀ e ∈ predsOf o, inS listed e) :
    ∀ t ∈ looksOf ops.toList o, t < a.tmps.size ∧ VR φ (tmv tm t) (a.tmps.getD t undef) := by
  intro t ht
  have hlt := looks_lt hok (memO ho) ht
  refine ⟨by rw [inv.size]; exact hlt, inv.rel t hlt fun k q hq hk hkS hqd => hkS (hpS k (hst.k1 k q hq ?_ t ht hqd))⟩
  cases hqw : isWr P q with
  | false => rfl
  | true => exact absurd (inv.wr k q hq hk hqw) hkS

theorem Inv.opVR (inv : Inv P ops nt φ0 h0 w0 ds tm0 listed D M tm h own φ a w) (hok : ∀ q ∈ ops.toList, operOk nt q = true) {i : Nat} {o : Oper} (ho : ops[i]? = some o) (hst : Stat P ops i o) (hpS : ∀ e ∈ predsOf o, inS listed e) :
    ∀ y ∈ o.op.operands.toList, VR φ (evv tm y) (a.eval y) := by
  intro y hy
  have hyo := operOk_opn (hok o (memO ho)) y hy
  cases y with
  | tmp t => exact (inv.looks hok ho hst hpS t (operand_looks hy)).2
  | const v => exact selfOk_VR hyo
  | func f => exact VR.func' .nil .nil
  | global g => cases hyo

theorem Inv.wanted (inv : Inv P ops nt φ0 h0 w0 ds tm0 listed D M tm h own φ a w) (hok : ∀ q ∈ ops.toList, operOk nt q = true) {i : Nat} {o : Oper} (ho : ops[i]? = some o) (hst : Stat P ops i o) (hpS : ∀ e ∈ predsOf o, inS listed e)
    {g : Option (Nat × Bool)} (hg : guardOf ops.toList o = some g) : Region.wanted o (yielded ops a.tmps) = wantB tm g :=
  wanted_eq (φ := φ) hg fun s _ _ hs => inv.looks hok ho hst hpS s hs

theorem Inv.late (inv : Inv P ops nt φ0 h0 w0 ds tm0 listed D M tm h own φ a w) (hok : ∀ q ∈ ops.toList, operOk nt q = true) {i : Nat} {o : Oper} (ho : ops[i]? = some o) (hD : bit D i = true) (hnS : ¬ inS listed i) (hpS : ∀ e ∈ predsOf o, inS listed e)
    {Q : Exit → Act → World → Prop} {K : Act → World → Prop} {r0 : Option Nat} (hK : ∀ φ' a' w', Inv P ops nt φ0 h0 w0 ds tm0 (listed.setIfInBounds i true) D M tm h own φ' a' w' → K a' w') : wpOpIn (FR r0) 0 P ops Q i K a w := by
  obtain ⟨hst, _⟩ := inv.st i o ho hD
  obtain ⟨g, hg, h1, h2⟩ := inv.pend i o ho hD hnS
  have hlt : ∀ d, o.dst = some d → d < nt := fun d hd => by have := operOk_dst (hok o (memO ho)); rw [hd] at this; exact lt_of_ble this
  simp only [wpOpIn, ho]
  rw [inv.wanted hok ho hst hpS hg]
  cases hw : wantB tm g with
  | false =>
    rw [if_neg (by simp)]
    exact ⟨about_all, hK φ _ w (inv.done hok ho hD hpS (fun d hd => by rw [h1 hw d hd]; exact VR.undef) (Sub.refl φ) inv.hr inv.ext (fun _ _ e => e))⟩
  | true =>
    rw [if_pos rfl]
    have h2 := h2 hw
    have hρ := inv.opVR hok ho hst hpS
    cases hc : clsOf P o.op with
    | rd x =>
      rw [hc] at h2
      obtain ⟨v, k1, k2⟩ := h2
      obtain ⟨v0, v', e1, e2, e3⟩ := compR_sound (β := Option Value) (fl := none) (good := fun r => r = some v) (by simp) (clsOf_rd hc) hρ inv.hr (κ := fun v _ => some v) k1 rfl
      cases e1
      refine ⟨about_all, ?_⟩
      rw [Oper.semAt_eq _ _ _ (fun c hcd => by rw [hcd] at hc; cases hc), e3]
      exact hK φ _ w (inv.done hok ho hD hpS (fun d hd => by rw [k2 d hd]; exact e2) (Sub.refl φ) inv.hr inv.ext (fun _ _ e => e))
    | al x =>
      rw [hc] at h2
      obtain ⟨n, ob, mk, k1, k2, k3, k4, k5, k6, k7⟩ := h2
      obtain ⟨ob', mk', O, e1, e2, e3, e4, e5⟩ := compA_sound (β := Option (AObj × (Nat → Value))) (fl := none) (good := fun r => r = some (ob, mk)) (P := P) (w := w) (by simp) (clsOf_al hc) hρ (κ := fun o mk => some (o, mk)) k2 rfl
      cases e1
      refine ⟨about_all, ?_⟩
      rw [Oper.semAt_eq _ _ _ (fun c hcd => by rw [hcd] at hc; cases hc), e5]
      refine hK (addPl φ n ⟨w.heap.size, 0, 0⟩) _ _ (inv.done hok ho hD hpS (fun d hd => by rw [k7 d hd]; exact e4 _ _ _ (addPl_same _ _ _)) (addPl_sub k4) (inv.hr.birth k3 k4 k5 0 0 (e3 _)) (inv.ext.birth k4 k6 O (UF_of_OR (e3 ⟨0, 0, 0⟩) e2) 0 0) ?_)
      intro m hm1 hm2
      unfold addPl
      rw [if_neg]
      · exact hm2
      · intro he; subst he; exact hm1 k1
    | wr => rw [hc] at h2; exact h2.elim

end Go.Vai

namespace Go.Vai
open Go
variable {β : Type} {fl : β} {good : β → Prop} {pr : Prims β} {P : Program} {φ : Emb} {h h' : Heap} {w : World} {t : TypeId}
variable {ops : Array Oper} {nt : Nat} {φ0 : Emb} {h0 : Heap} {w0 : World} {ds : List Deferred} {listed : Array Bool} {D M : Nat} {tm tm0 : T Value} {own : Nat → Option Nat} {a : Act}

theorem sameB_sound : ∀ (its : List It), sameB P ops.toList D M tm h its = true → ∀ k q, (k, q) ∈ its → bit D k = true → bit M k = false → ∀ x g, clsOf P q.op = .rd x → guardOf ops.toList q = some g → wantB tm g = true →
    ∃ v, readO x tm h = some v ∧ ∀ d, q.dst = some d → tmv tm d = v := by
  intro its
  induction its with
  | nil => intro _ k q hm; cases hm
  | cons it its ih =>
    obtain ⟨j, o⟩ := it
    intro hs k q hm hD hM x g hc hg hw
    simp only [List.mem_cons] at hm
    unfold sameB at hs
    rcases hm with e | hm
    · cases e
      simp only [hD, hM, hc, hg, hw, Bool.not_false, Bool.and_true, Bool.and_eq_true] at hs
      have hs := hs.1
      split at hs
      · rename_i v d hv hd
        refine ⟨v, hv, fun d' hd' => ?_⟩
        rw [hd] at hd'; cases hd'
        exact (veq_eq 8 _ _ hs).symm
      · rename_i v hv hd
        exact ⟨v, hv, fun d' hd' => by rw [hd] at hd'; cases hd'⟩
      · cases hs
    · refine ih ?_ k q hm hD hM x g hc hg hw
      split at hs
      · simp only [Bool.and_eq_true] at hs; exact hs.2
      · exact hs

theorem anyRd_sound {its : List It} (ha : anyRd P D M its = false) {k : Nat} {q : Oper} (hm : (k, q) ∈ its) (hD : bit D k = true) (hM : bit M k = false) {x : OXI} (hc : clsOf P q.op = .rd x) : False := by
  unfold anyRd at ha
  rw [List.any_eq_false] at ha
  have := ha _ hm
  simp [hD, hM, hc] at this

/-- the real run has come to an operation that may write -/
theorem Inv.wrote (inv : Inv P ops nt φ0 h0 w0 ds tm0 listed D M tm h own φ a w) (hok : ∀ q ∈ ops.toList, operOk nt q = true) {i : Nat} {o : Oper} (ho : ops[i]? = some o) (hD : bit D i = false) (hpS : ∀ e ∈ predsOf o, inS listed e)
    (hst : Stat P ops i o) (hw : isWr P o = true) {M' : Nat} (hM : ∀ k, bit M' k = true → inS listed k)
    (hno : ∀ k q, ops[k]? = some q → bit D k = true → isWr P q = false → bit M' k = false → ∀ d, o.dst = some d → q.dst ≠ some d ∧ d ∉ looksOf ops.toList q)
    {φ' : Emb} {w' : World} {v v' : Value} {h' : Heap} (hv : VR φ' v v') (hr' : HR P φ' h' w') (hx : Ext φ φ' h h' w w')
    (hre : ∀ k q, ops[k]? = some q → bit D k = true → bit M' k = false → ¬ inS listed k → ∀ x g, clsOf P q.op = .rd x → guardOf ops.toList q = some g → wantB (putT tm o.dst v) g = true →
      ∃ v1, readO x (putT tm o.dst v) h' = some v1 ∧ ∀ d, q.dst = some d → tmv (putT tm o.dst v) d = v1) :
    Inv P ops nt φ0 h0 w0 ds tm0 (listed.setIfInBounds i true) (setBit D i) M' (putT tm o.dst v) h' own φ' (a.put o.dst v') w' := by
  have hil : i < listed.size := by rw [inv.lsz]; exact (Array.getElem?_eq_some_iff.mp ho).1
  have hdst := operOk_dst (hok o (memO ho))
  have pendD : ∀ {k q}, ops[k]? = some q → bit (setBit D i) k = true → ¬ inS (listed.setIfInBounds i true) k → bit D k = true ∧ ¬ inS listed k ∧ isWr P q = false ∧ bit M' k = false := by
    intro k q hq hk hkS
    rw [inS_set hil] at hkS
    have hki : k ≠ i := fun e => hkS (.inl e)
    have hkS' : ¬ inS listed k := fun e => hkS (.inr e)
    rw [bit_setBit, Bool.or_eq_true] at hk
    have hk : bit D k = true := by
      rcases hk with hk | hk
      · exact hk
      · exact absurd (by simpa using hk : i = k).symm hki
    refine ⟨hk, hkS', ?_, ?_⟩
    · cases hqw : isWr P q with
      | false => rfl
      | true => exact absurd (inv.wr k q hq hk hqw) hkS'
    · cases hm : bit M' k with
      | false => rfl
      | true => exact absurd (hM k hm) hkS'
  refine ⟨by simp [inv.lsz], ?_, ?_, ?_, ?_, ?_, inv.small, by rw [put_size]; exact inv.size, ?_, hr', inv.ext.trans hx, by rw [put_dfs]; exact inv.dfs, ?_, fun t ht hno => by rw [tmv_put inv.small hdst ht, if_neg (hno i o ho)]; exact inv.keep t ht hno⟩
  · intro k hk
    rw [bit_setBit]
    rcases (inS_set hil).mp hk with rfl | hk
    · simp
    · rw [inv.sub k hk]; rfl
  · intro k q hq hk e he
    rw [inS_set hil]
    rcases (inS_set hil).mp hk with rfl | hk
    · rw [ho] at hq; cases hq; exact .inr (hpS e he)
    · exact .inr (inv.clo k q hq hk e he)
  · intro k q hq hk hkw
    rw [inS_set hil]
    rw [bit_setBit, Bool.or_eq_true] at hk
    rcases hk with hk | hk
    · exact .inr (inv.wr k q hq hk hkw)
    · exact .inl (by simpa using hk : i = k).symm
  · intro k hk; rw [inS_set hil]; exact .inr (hM k hk)
  · intro k q hq hk
    rw [bit_setBit, Bool.or_eq_true] at hk
    have up : ∀ {e}, bit D e = true → bit (setBit D i) e = true := fun he => by rw [bit_setBit, he]; rfl
    rcases hk with hk | hk
    · exact ⟨(inv.st k q hq hk).1, fun e he => up ((inv.st k q hq hk).2 e he)⟩
    · have hk : i = k := by simpa using hk
      subst hk; rw [ho] at hq; cases hq; exact ⟨hst, fun e he => up (inv.sub e (hpS e he))⟩
  · intro t ht hnot
    rw [put_getD (by rw [inv.size]; exact ht), tmv_put inv.small hdst ht]
    by_cases hd : o.dst = some t
    · rw [if_pos hd, if_pos hd]; exact hv
    · rw [if_neg hd, if_neg hd]
      refine (inv.rel t ht fun k q hq hk hkS => hnot k q hq (by rw [bit_setBit, hk]; rfl) ?_).mono hx.sub
      rw [inS_set hil]
      rintro (rfl | hh)
      · rw [hk] at hD; cases hD
      · exact hkS hh
  · intro k q hq hk hkS
    obtain ⟨hk1, hk2, hk3, hk4⟩ := pendD hq hk hkS
    have hl : ∀ t ∈ looksOf ops.toList q, tmv (putT tm o.dst v) t = tmv tm t := by
      intro t ht
      rw [tmv_put inv.small hdst (looks_lt hok (memO hq) ht), if_neg]
      intro he
      exact (hno k q hq hk1 hk3 hk4 t he).2 ht
    have hd : ∀ d, q.dst = some d → tmv (putT tm o.dst v) d = tmv tm d := by
      intro d hdd
      have hlt : d < nt := by have := operOk_dst (hok q (memO hq)); rw [hdd] at this; exact lt_of_ble this
      rw [tmv_put inv.small hdst hlt, if_neg]
      intro he
      exact (hno k q hq hk1 hk3 hk4 d he).1 hdd
    refine (inv.pend k q hq hk1 hk2).keep hl hd (fun x v1 g hc hg hwt _ _ => hre k q hq hk1 hk4 hk2 x g hc hg hwt) ?_
    intro n ob e1 e2 e3 e4 e5
    refine ⟨e1, by rw [hx.frA n e4 e3]; exact e2, ?_, Nat.lt_of_lt_of_le e4 hx.nx⟩
    cases hp : φ' n with
    | none => rfl
    | some pl => have := (hx.new n pl e3 hp).1; omega

theorem Inv.write (hfl : ¬ good fl) (hp : PrimsOk good pr P) {rec : Rec β} (hrec : RunOk good P rec) (inv : Inv P ops nt φ0 h0 w0 ds tm0 listed D M tm h own φ a w) (hok : ∀ q ∈ ops.toList, operOk nt q = true) {i : Nat} {o : Oper} (ho : ops[i]? = some o)
    (hD : bit D i = false) (hpS : ∀ e ∈ predsOf o, inS listed e) (hst : Stat P ops i o) (hw : isWr P o = true) {M' : Nat} (hM : ∀ k, bit M' k = true → inS listed k)
    (hno : ∀ k q, ops[k]? = some q → bit D k = true → isWr P q = false → bit M' k = false → ∀ d, o.dst = some d → q.dst ≠ some d ∧ d ∉ looksOf ops.toList q)
    {κ : T Value → Heap → β} (hg : good (stepPlan fl pr P rec ops.toList D M' o tm h κ)) {Q : Exit → Act → World → Prop} {K : Act → World → Prop} {r0 : Option Nat}
    (hK : ∀ tm' h' φ' a' w', Inv P ops nt φ0 h0 w0 ds tm0 (listed.setIfInBounds i true) (setBit D i) M' tm' h' own φ' a' w' → good (κ tm' h') → K a' w') : wpOpIn (FR r0) 0 P ops Q i K a w := by
  simp only [wpOpIn, ho]
  unfold stepPlan at hg
  split at hg
  · exact absurd hg hfl
  rename_i g hgo
  rw [inv.wanted hok ho hst hpS hgo]
  split at hg
  · rename_i hwt
    rw [putK_eq] at hg
    rw [hwt, if_neg (by simp)]
    refine ⟨about_all, ?_⟩
    refine hK _ _ φ _ w (inv.wrote hok ho hD hpS hst hw hM hno VR.undef inv.hr (Ext.refl _ _ _) ?_) hg
    intro k q hq hk hkM hkS x g' hc hg' hwt'
    have hk3 := isWr_of_rd hc
    have hdst := operOk_dst (hok o (memO ho))
    have hl : ∀ t ∈ looksOf ops.toList q, tmv (putT tm o.dst undef) t = tmv tm t := by
      intro t ht
      rw [tmv_put inv.small hdst (looks_lt hok (memO hq) ht), if_neg]
      intro he
      exact (hno k q hq hk hk3 hkM t he).2 ht
    obtain ⟨g2, e1, e2, e3⟩ := inv.pend k q hq hk hkS
    rw [hg'] at e1; cases e1
    have e3 := e3 (by rw [← want_same hg' hl]; exact hwt')
    rw [hc] at e3
    obtain ⟨v, k1, k2⟩ := e3
    refine ⟨v, ?_, fun d hdd => ?_⟩
    · unfold readO at *
      rw [XI.congr (fun y hy => evv_same hl y (compR_ops (clsOf_rd hc) y hy))]
      exact k1
    · have hlt : d < nt := by have := operOk_dst (hok q (memO hq)); rw [hdd] at this; exact lt_of_ble this
      rw [tmv_put inv.small hdst hlt, if_neg]
      · exact k2 d hdd
      · intro he
        exact (hno k q hq hk hk3 hkM d he).1 hdd
  · rename_i hwt
    rw [hwt, if_pos rfl]
    rw [isWr_true hw] at hg
    refine compF_wp hfl hp hrec (inv.opVR hok ho hst hpS) inv.hr hg ?_
    intro φ' v v' h' w' g1 g2 g3 g4
    rw [putK_eq] at g1
    split at g1
    · rename_i ha
      refine hK _ _ φ' _ w' (inv.wrote hok ho hD hpS hst hw hM hno g2 g3 g4 ?_) g1
      intro k q hq hk hkM hkS x g' hc hg' hwt'
      exact (anyRd_sound ha (mem0 hq) hk hkM hc).elim
    · split at g1
      · rename_i hsm
        refine hK _ _ φ' _ w' (inv.wrote hok ho hD hpS hst hw hM hno g2 g3 g4 ?_) g1
        intro k q hq hk hkM hkS x g' hc hg' hwt'
        exact sameB_sound _ hsm k q (mem0 hq) hk hkM x g' hc hg' hwt'
      · exact absurd g1 hfl

/-! ## those that must have come -/
theorem foldl_bits {S : Nat → Prop} : ∀ (l : List Nat) (m : Nat), (∀ k, bit m k = true → S k) → (∀ e ∈ l, S e) → ∀ k, bit (l.foldl setBit m) k = true → S k := by
  intro l
  induction l with
  | nil => intro m h1 _ k hk; exact h1 k hk
  | cons e l ih =>
    intro m h1 h2 k hk
    refine ih (setBit m e) ?_ (fun x hx => h2 x (by simp [hx])) k hk
    intro x hx
    rw [bit_setBit, Bool.or_eq_true] at hx
    rcases hx with hx | hx
    · exact h1 x hx
    · have : e = x := by simpa using hx
      subst this; exact h2 e (by simp)

theorem ancF_bits {S : Nat → Prop} {os : List Oper} (hc : ∀ i o, os[i]? = some o → S i → ∀ e ∈ predsOf o, S e) : ∀ (i m : Nat), (∀ k, bit m k = true → S k) → ∀ k, bit (ancF os i m) k = true → S k := by
  intro i
  induction i with
  | zero => intro m h1 k hk; exact h1 k hk
  | succ i ih =>
    intro m h1 k hk
    unfold ancF at hk
    split at hk
    · rename_i o hb ho
      exact ih _ (foldl_bits _ _ h1 (hc i o ho (h1 i hb))) k hk
    · exact ih m h1 k hk

theorem ancOf_bits {S : Nat → Prop} {os : List Oper} (hc : ∀ i o, os[i]? = some o → S i → ∀ e ∈ predsOf o, S e) {i : Nat} {o : Oper} (ho : os[i]? = some o) (hp : ∀ e ∈ predsOf o, S e) : ∀ k, bit (ancOf os i) k = true → S k := by
  unfold ancOf
  rw [ho]
  exact ancF_bits hc i _ (foldl_bits _ _ (fun k hk => by rw [bit_zero] at hk; cases hk) hp)

/-! ## the region -/
theorem ready_mem {i : Nat} (hi : i ∈ Region.ready .any ops listed) : ∃ o, ops[i]? = some o ∧ ¬ inS listed i ∧ ∀ e ∈ predsOf o, inS listed e := by
  unfold Region.ready at hi
  simp only [List.mem_filter, List.mem_range, Bool.and_eq_true] at hi
  obtain ⟨h1, h2, h3⟩ := hi
  have ho : ops[i]? = some ops[i] := by simp [h1]
  refine ⟨ops[i], ho, ?_, ?_⟩
  · intro hh
    unfold inS at hh
    simp only [Array.getD_eq_getD_getElem?] at hh h2
    cases hl : listed[i]? with
    | none => rw [hl] at hh; simp at hh
    | some b => rw [hl] at hh h2; simp at hh h2; rw [hh] at h2; cases h2
  · intro e he
    rw [ho] at h3
    simp only [Option.map_some, Option.getD_some, Array.all_eq_true'] at h3
    unfold predsOf at he
    simp only [List.mem_map, List.mem_filter] at he
    obtain ⟨x, ⟨hx, hb⟩, rfl⟩ := he
    have := h3 x (by simpa using hx)
    rw [hb] at this
    simp only [Bool.not_true, Bool.false_or] at this
    exact this

theorem mem_ready {i : Nat} {o : Oper} (ho : ops[i]? = some o) (hsz : listed.size = ops.size) (hn : ¬ inS listed i) (hp : ∀ e ∈ predsOf o, inS listed e) : i ∈ Region.ready .any ops listed := by
  have hlt : i < ops.size := (Array.getElem?_eq_some_iff.mp ho).1
  unfold Region.ready
  simp only [List.mem_filter, List.mem_range, Bool.and_eq_true]
  refine ⟨hlt, ?_, ?_⟩
  · have hll : i < listed.size := by omega
    unfold inS at hn
    simp only [Array.getD_eq_getD_getElem?, getElem?_pos listed i hll] at hn ⊢
    simpa using hn
  · rw [ho]
    simp only [Option.map_some, Option.getD_some, Array.all_eq_true']
    intro e he
    cases hb : Region.binds .any e with
    | false => rfl
    | true =>
      have := hp e.on (by unfold predsOf; simp only [List.mem_map, List.mem_filter]; exact ⟨e, ⟨by simpa using he, hb⟩, rfl⟩)
      simp only [Bool.not_true, Bool.false_or]
      exact this

section
variable {nt : Nat} {κ : T Value → Heap → β} {Q : Exit → Act → World → Prop} {r0 : Option Nat}

theorem all_in {own : Nat → Option Nat} (inv : Inv P ops nt φ0 h0 w0 ds tm0 listed D M tm h own φ a w) (hidx : ∀ i o, ops[i]? = some o → ∀ e ∈ predsOf o, e < i) (hr : Region.ready .any ops listed = []) : ∀ i o, ops[i]? = some o → inS listed i := by
  intro i
  induction i using Nat.strongRecOn with
  | _ i ih =>
    intro o ho
    by_cases hi : inS listed i
    · exact hi
    · have hlt : i < ops.size := (Array.getElem?_eq_some_iff.mp ho).1
      have := mem_ready ho inv.lsz hi fun e he => by
        have hei := hidx i o ho e he
        exact ih e hei ops[e] (by simp)
      rw [hr] at this; cases this

theorem Inv.full {own : Nat → Option Nat} (inv : Inv P ops nt φ0 h0 w0 ds tm0 listed D M tm h own φ a w) (hall : ∀ i o, ops[i]? = some o → inS listed i) : TR φ nt tm a :=
  ⟨inv.size, inv.small, fun t ht => inv.rel t ht fun i o ho _ hS => absurd (hall i o ho) hS⟩

theorem okPlan_cons {i : Nat} {is : List Nat} {D M : Nat} (hp : okPlan P ops.toList (i :: is) D M = true) : ∃ o, ops[i]? = some o ∧
    okAt P ops.toList (itemsOf ops.toList 0) D (match isWr P o with | true => Nat.lor M (ancOf ops.toList i) | false => M) i o = true ∧
    okPlan P ops.toList is (setBit D i) (match isWr P o with | true => Nat.lor M (ancOf ops.toList i) | false => M) = true := by
  unfold okPlan at hp
  split at hp <;> try contradiction
  rename_i o ho
  rw [Array.getElem?_toList] at ho
  simp only [Bool.and_eq_true] at hp
  exact ⟨o, ho, hp.1, hp.2⟩

/-- ahead, until the operation that is due is done or is the next, and may write -/
theorem toOp (hfl : ¬ good fl) (hok : ∀ q ∈ ops.toList, operOk nt q = true) {rec : Rec β} {i : Nat} {o : Oper} (ho : ops[i]? = some o) (hnS : ¬ inS listed i) (hpS : ∀ e ∈ predsOf o, inS listed e) :
    ∀ (l : List Nat) (D M : Nat) (tm : T Value) (h : Heap) (own : Nat → Option Nat), Inv P ops nt φ0 h0 w0 ds tm0 listed D M tm h own φ a w → okPlan P ops.toList l D M = true → good (runPlan fl pr P rec ops.toList l D M tm h κ) →
      ∃ l' D' tm' h' own', Inv P ops nt φ0 h0 w0 ds tm0 listed D' M tm' h' own' φ a w ∧ okPlan P ops.toList l' D' M = true ∧ good (runPlan fl pr P rec ops.toList l' D' M tm' h' κ) ∧
        (bit D' i = true ∨ (isWr P o = true ∧ ∃ js, l' = i :: js)) := by
  intro l
  induction l with
  | nil =>
    intro D M tm h own inv hp hg
    refine ⟨[], D, tm, h, own, inv, hp, hg, .inl ?_⟩
    unfold okPlan at hp
    rw [List.all_eq_true] at hp
    exact hp _ (mem0 ho)
  | cons j js ih =>
    intro D M tm h own inv hp hg
    by_cases hDi : bit D i = true
    · exact ⟨j :: js, D, tm, h, own, inv, hp, hg, .inl hDi⟩
    have hDi : bit D i = false := by simpa using hDi
    obtain ⟨q, hq, hat, hrest⟩ := okPlan_cons hp
    obtain ⟨k1, k2, k3, k4, k5⟩ := okAt_sound hat
    cases hw : isWr P q with
    | true =>
      have hij : i = j := by
        by_cases hij : i = j
        · exact hij
        · have := (k5 hw).1 i o ho hij hDi
          have hrd : readyB D o = true := by unfold readyB; rw [List.all_eq_true]; exact fun e he => inv.sub e (hpS e he)
          rw [hrd] at this; cases this
      subst hij
      rw [ho] at hq; cases hq
      exact ⟨i :: js, D, tm, h, own, inv, hp, hg, .inr ⟨hw, js, rfl⟩⟩
    | false =>
      rw [hw] at hrest hat
      simp only at hrest
      unfold runPlan at hg
      rw [Array.getElem?_toList, hq] at hg
      simp only [hw] at hg
      obtain ⟨tm', h', own', inv', hg'⟩ := inv.advance hfl hok hq k1 k2 k4 hw hg
      exact ih _ M tm' h' own' inv' hrest hg'

theorem planAny (hfl : ¬ good fl) (hp : PrimsOk good pr P) {rec : Rec β} (hrec : RunOk good P rec) (hok : ∀ q ∈ ops.toList, operOk nt q = true) (hidx : ∀ i o, ops[i]? = some o → ∀ e ∈ predsOf o, e < i)
    (hQ : ∀ tm' h' φ' a' w', good (κ tm' h') → TR φ' nt tm' a' → HR P φ' h' w' → Ext φ0 φ' h0 h' w0 w' → a'.defers = ds → (∀ t, t < nt → (∀ (i : Nat) (o : Oper), ops[i]? = some o → o.dst ≠ some t) → tmv tm' t = tmv tm0 t) → Q .normal a' w') :
    ∀ (fuel : Nat) (listed : Array Bool) (l : List Nat) (D M : Nat) (tm : T Value) (h : Heap) (own : Nat → Option Nat) (φ : Emb) (a : Act) (w : World), listed.toList.count false ≤ fuel → Inv P ops nt φ0 h0 w0 ds tm0 listed D M tm h own φ a w →
      okPlan P ops.toList l D M = true → good (runPlan fl pr P rec ops.toList l D M tm h κ) → wpAnyIn (FR r0) 0 P .any ops Q fuel listed a w := by
  -- the end
  have fin : ∀ (listed : Array Bool) (l : List Nat) (D M : Nat) (tm : T Value) (h : Heap) (own : Nat → Option Nat) (φ : Emb) (a : Act) (w : World), Inv P ops nt φ0 h0 w0 ds tm0 listed D M tm h own φ a w →
      okPlan P ops.toList l D M = true → good (runPlan fl pr P rec ops.toList l D M tm h κ) → Region.ready .any ops listed = [] → Q .normal a w := by
    intro listed l D M tm h own φ a w inv hpl hg hr
    have hall := all_in inv hidx hr
    cases l with
    | nil => exact hQ tm h φ a w hg (inv.full hall) inv.hr inv.ext inv.dfs inv.keep
    | cons j js =>
      obtain ⟨q, hq, hat, _⟩ := okPlan_cons hpl
      have := (okAt_sound hat).1
      rw [inv.sub j (hall j q hq)] at this; cases this
  intro fuel
  induction fuel with
  | zero =>
    intro listed l D M tm h own φ a w hc inv hpl hg
    have hr : Region.ready .any ops listed = [] := by
      cases hr : Region.ready .any ops listed with
      | nil => rfl
      | cons i is =>
        obtain ⟨o, ho, hnS, _⟩ := ready_mem (listed := listed) (ops := ops) (i := i) (by rw [hr]; exact List.mem_cons_self)
        have hlt : i < listed.size := by rw [inv.lsz]; exact (Array.getElem?_eq_some_iff.mp ho).1
        have : false ∈ listed.toList := by
          unfold inS at hnS
          simp only [Array.getD_eq_getD_getElem?, getElem?_pos listed i hlt, Option.getD_some] at hnS
          have : listed[i] = false := by simpa using hnS
          rw [← this]
          exact Array.getElem_mem_toList hlt
        have := List.count_pos_iff.mpr this
        omega
    exact ⟨hr, fin listed l D M tm h own φ a w inv hpl hg hr⟩
  | succ fuel ih =>
    intro listed l D M tm h own φ a w hc inv hpl hg
    refine ⟨fin listed l D M tm h own φ a w inv hpl hg, fun i hi => ?_⟩
    obtain ⟨o, ho, hnS, hpS⟩ := ready_mem hi
    have hlt : i < listed.size := by rw [inv.lsz]; exact (Array.getElem?_eq_some_iff.mp ho).1
    have hcnt : (listed.setIfInBounds i true).toList.count false ≤ fuel := by
      have hfi : listed.toList[i]'(by simpa using hlt) = false := by
        unfold inS at hnS
        simp only [Array.getD_eq_getD_getElem?, getElem?_pos listed i hlt, Option.getD_some] at hnS
        simpa using hnS
      rw [Array.toList_setIfInBounds, List.count_set (by simpa using hlt), hfi]
      change listed.toList.count false - 1 + 0 ≤ fuel
      omega
    obtain ⟨l', D', tm', h', own', inv', hpl', hg', hend⟩ := toOp hfl hok ho hnS hpS l D M tm h own inv hpl hg
    by_cases hDi : bit D' i = true
    · exact inv'.late hok ho hDi hnS hpS fun φ' a' w' inv2 => ih _ l' D' M tm' h' own' φ' a' w' hcnt inv2 hpl' hg'
    · rcases hend with hend | ⟨hw, js, rfl⟩
      · exact absurd hend hDi
      obtain ⟨q, hq, hat, hrest⟩ := okPlan_cons hpl'
      rw [ho] at hq; cases hq
      rw [hw] at hat hrest
      simp only at hat hrest
      obtain ⟨k1, k2, k3, k4, k5⟩ := okAt_sound hat
      unfold runPlan at hg'
      rw [Array.getElem?_toList, ho] at hg'
      simp only [hw] at hg'
      refine inv'.write hfl hp hrec hok ho k1 hpS k4 hw ?_ (k5 hw).2 hg' fun tm2 h2 φ2 a2 w2 inv2 hg2 => ih _ js _ _ tm2 h2 own' φ2 a2 w2 hcnt inv2 hrest hg2
      intro k hk
      rw [bit_or, Bool.or_eq_true] at hk
      rcases hk with hk | hk
      · exact inv'.mS k hk
      · exact ancOf_bits (S := inS listed) (os := ops.toList) (fun j q hq hj => inv'.clo j q (by rw [← Array.getElem?_toList]; exact hq) hj) (by rw [Array.getElem?_toList]; exact ho) hpS k hk
end

theorem draw_sound (hfl : ¬ good fl) (hp : PrimsOk good pr P) (hm : P.follows .mixedOrders = true) : DrawOk good fl pr P := by
  intro rec hrec ops id nt hok φ tm h a w κ ht hr hg r0 Q hQ
  unfold runRegion at hg
  split at hg
  · contradiction
  split at hg
  · rename_i l hl
    unfold planOf at hl
    split at hl <;> try contradiction
    split at hl <;> try contradiction
    rename_i hok2
    cases hl
    simp only [Bool.and_eq_true] at hok2
    refine wpIn_region_any hm ?_
    have hemp : ∀ i, ¬ inS (Array.replicate ops.size false) i := by
      intro i hi
      unfold inS at hi
      simp only [Array.getD_eq_getD_getElem?, Array.getElem?_replicate] at hi
      split at hi <;> simp at hi
    refine planAny (φ0 := φ) (h0 := h) (w0 := w) (ds := a.defers) (tm0 := tm) hfl hp hrec hok ?_ hQ ops.size _ l 0 0 tm h (fun _ => none) φ a { w with drawn := w.drawn + 1 } ?_ ?_ hok2.1 hg
    · intro i o ho e he
      have := hok2.2
      rw [List.all_eq_true] at this
      have := this _ (mem0 ho)
      simp only [List.all_eq_true] at this
      exact lt_of_ble (this e he)
    · refine Nat.le_trans List.count_le_length (by simp)
    · have nb : ∀ k, bit 0 k = true → False := fun k hb => by rw [bit_zero] at hb; cases hb
      exact ⟨by simp, fun i hi => absurd hi (hemp i), fun i o _ hi => absurd hi (hemp i), fun i o _ hb => (nb i hb).elim, fun i hb => (nb i hb).elim, fun i o _ hb => (nb i hb).elim,
        ht.small, ht.size, fun t hlt _ => ht.rel t hlt, hr.drew, (Ext.refl φ h w).drew, rfl, fun i o _ hb => (nb i hb).elim, fun _ _ _ => rfl⟩
  · exact absurd hg hfl

end Go.Vai

namespace Go.Vai
open Go
variable {pr : Prims Bool} {P : Program} {w : World}

theorem HR.start (w : World) : HR P (fun _ => none) ⟨0, .nil, 0⟩ w :=
  ⟨fun _ _ _ _ e => (by cases e), fun _ _ e => (by cases e), fun b o _ e => (by rw [T.get_nil] at e; cases e), by decide, fun _ _ _ _ _ _ _ _ _ _ e => (by cases e), Nat.le_refl _⟩

/-- what lay before lies as it lay -/
def GrownOld (w w' : World) : Prop := w.keptBut w' (fun _ => False) ∧ (∀ a : Addr, a.block < w.heap.size → w'.frozen? a = w.frozen? a) ∧ w.heap.size ≤ w'.heap.size

theorem grown_of_ext {φ' : Emb} {h' : Heap} {w' : World} (hx : Ext (fun _ => none) φ' ⟨0, .nil, 0⟩ h' w w') : GrownOld w w' := by
  have hfr : ∀ B, B < w.heap.size → w'.heap[B]? = w.heap[B]? := fun B hB => hx.frC B hB fun b pl e => by cases e
  refine ⟨⟨hx.os, hx.output, fun i hi => ?_⟩, fun a ha => ?_, hx.size⟩
  · rw [hfr i hi]
    cases w.heap[i]? with
    | none => rfl
    | some O => cases O <;> first | exact ⟨rfl, rfl, rfl, fun _ _ => rfl⟩ | exact .inr ⟨rfl, rfl⟩ | rfl
  · simp only [World.frozen?, hfr a.block ha]

theorem GrownOld.frame {W w' : World} (h : GrownOld W w') (S : MemPlace → Prop) : W.keptBut w' S := World.keptBut_mono (fun _ f => f.elim) h.1

/-- the row's end, where blocks of the call's own may be marked -/
theorem post_of_old {H : Type} {enc : TypeId × Value → H} {f : Func} {s : ChangeSpec} {apart fresh handsOn again : Bool} {W W' : World} {args : Array Value} {v : Value} {ds gs : List (DataW H)} {before pa pv : List MemPlace}
    (hW : DataW.Whole enc P f.params.toList s.vars apart W args.toList ds gs before)
    (hres : ∀ (b : Nat) (sp : Nat → Bool) (hd : Bool), DataW.TrodAll enc P W' b sp hd f.resultTypes.toList (v.resultList f.resultTypes.size) (s.fn H (ds ++ gs)).results [])
    (hargs : ∀ sp : Nat → Bool, (∀ p ∈ before, sp p.block = true) → DataW.TrodAll enc P W' 0 sp true f.params.toList args.toList (s.fn H (ds ++ gs)).args pa)
    (hvars : ∀ sp : Nat → Bool, (∀ p ∈ before, sp p.block = true) → DataW.TrodVars enc P W' sp s.vars (s.fn H (ds ++ gs)).vars pv)
    (hps : before = pa ++ pv) (hk : W.keptBut W' (· ∈ before)) (hfz : ∀ a : Addr, a.block < W.heap.size → W'.frozen? a = W.frozen? a)
    (hok : ∀ (j : Nat) (t : TypeId) (r : Value), f.resultTypes[j]? = some t → (v.resultList f.resultTypes.size)[j]? = some r → Value.okWide P W' .any 0 t r) :
    s.post enc P f apart fresh handsOn again W args v W' := by
  have hlt : ∀ p ∈ before, p.block < W.heap.size := fun p hp => hW.lt p hp
  have hold : ∀ p ∈ before, (fun b => decide (b < W.heap.size)) p.block = true := fun p hp => by simpa using hlt p hp
  refine ⟨ds, gs, before, [], pa, pv, hW, hres _ _ _, hargs _ hold, hvars _ hold, World.keptBut_mono (fun p hp => ⟨hp, ?_⟩) hk, fun _ => ?_⟩
  · rw [hps, List.mem_append] at hp
    exact Or.inr hp
  · obtain ⟨_, _, _, _, _, hz, hn⟩ := hW
    refine ⟨hok, _, _, ([] ++ pa) ++ pv, ⟨[] ++ pa, pv, ChangeShapes.trodAll_append (hargs _ (fun _ _ => rfl)) (hres _ _ _), hvars _ (fun _ _ => rfl), rfl, ?_, ?_⟩, ?_⟩
    · intro b off hp
      have hm : MemPlace.cell b off ∈ before := by rw [hps]; simpa using hp
      rw [hfz _ (hlt _ hm)]
      exact hz b off hm
    · intro ha
      have := hn ha
      rw [hps] at this
      simpa using this
    · intro p hp _
      rw [hps]
      simpa using hp

theorem of_true {v : Value} (h : (match v with | .bool true => true | _ => false) = true) : v = .bool true := by
  split at h
  · rfl
  · cases h

def yes (b : Bool) : Prop := b = true

theorem answersTrue_sound (hm : P.follows .mixedOrders = true) (hp : PrimsOk yes pr P) {n : Nat} {f : FuncId} (h : answersTrue pr P n f = true) :
    Calls P f #[] w fun e w' => e = .returned (.bool true) ∧ GrownOld w w' := by
  have hfl : ¬ yes false := by simp [yes]
  have hrun := (run_sound (good := yes) hfl hp (draw_sound hfl hp hm) n).1
  have hc := callF_sound (good := yes) (w := w) hfl hp hrun (args := []) (args' := []) .nil (HR.start w) h
  refine Calls.mono hc.2 ?_
  rintro e w' ⟨φ', v, v', h', rfl, g1, g2, g3, g4⟩
  refine ⟨?_, grown_of_ext g4⟩
  have hv := of_true (v := v) g1
  subst hv
  cases g2
  rfl

/-- no function is given: all are run -/
def noPr : Prims Bool := ⟨fun _ => none, fun a b => match a with | true => b | false => false⟩
theorem noPrims : PrimsOk yes noPr P := ⟨fun x y hxy => by cases x <;> simp [noPr, yes] at hxy ⊢; exact hxy, fun f g hg => by cases hg⟩

end Go.Vai

namespace Go.Vai
open Go Go.RowKit
variable {P : Program}

theorem VR.scal {φ : Emb} {v : Value} (hv : scal1 v = true) : VR φ v v := by
  cases v <;> first | exact VR.bool _ | exact VR.int _ _ | exact VR.string _ | cases hv
theorem VR.of_scal {φ : Emb} {v v' : Value} (hv : scal1 v = true) (h : VR φ v v') : v' = v := by
  cases h <;> first | rfl | cases hv
theorem F2.scal {φ : Emb} : ∀ {l : List Value}, l.all scal1 = true → F2 (VR φ) l l := by
  intro l
  induction l with
  | nil => intro _; exact .nil
  | cons v l ih =>
    intro h
    simp only [List.all_cons, Bool.and_eq_true] at h
    exact .cons (VR.scal h.1) (ih h.2)

noncomputable def answersB (pr : Prims Bool) (P : Program) (n : Nat) (f : FuncId) (args : List Value) (v : Value) : Bool :=
  args.all scal1 && scal1 v && callF false pr P (run false pr P n) f args ⟨0, .nil, 0⟩ fun v' _ => veq 8 v' v

theorem closedCall (hm : P.follows .mixedOrders = true) {n : Nat} {f : FuncId} {args : List Value} {v : Value} (h : answersB noPr P n f args v = true) (w : World) :
    Calls P f args.toArray w fun e w' => e = .returned v ∧ Below w.heap.size w w' := by
  have hfl : ¬ yes false := by simp [yes]
  simp only [answersB, Bool.and_eq_true] at h
  obtain ⟨⟨ha, hv⟩, h⟩ := h
  have hc := callF_sound (good := yes) (w := w) hfl (noPrims (P := P)) (run_sound (good := yes) hfl noPrims (draw_sound hfl noPrims hm) n).1 (F2.scal ha) (HR.start w) h
  refine Calls.mono hc.2 ?_
  rintro e w' ⟨φ', v1, v', h', rfl, g1, g2, g3, g4⟩
  have e1 := veq_eq 8 _ _ g1
  subst e1
  refine ⟨by rw [VR.of_scal hv g2], ⟨g4.os, g4.tape, g4.output, g4.size, fun k hk => g4.frC k hk fun b pl e => by cases e⟩⟩
end Go.Vai
