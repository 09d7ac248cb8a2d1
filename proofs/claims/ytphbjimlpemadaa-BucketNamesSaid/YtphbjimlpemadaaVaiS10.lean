/-
  PROVED HERE: a part of an interpreter for the model's code, and that it is sound.
  The interpreter is sound, part 10: all that writes, together.
-/
import Derived.Test.YtphbjimlpemadaaVaiS9
import Derived.Laws.Small
import Derived.Laws.IdiomStrings
set_option linter.unusedVariables false
set_option linter.unusedSimpArgs false
namespace Go.Vai
open Go
variable {β : Type} {fl : β} {good : β → Prop} {P : Program} {φ : Emb} {h : Heap} {w : World} {t : TypeId}

theorem run_skipped {s : Sem Unit} {w' : World} (hs : s.run P w = .ok () w') : ((do s; pure Next.skip : Sem Next)).run P w = .ok .skip w' := by simp [hs]

theorem clearB_map_sound (hfl : ¬ good fl) {kt et : TypeId} {ty : TypeId} {ts : Array TypeId} (ht : ts[0]? = some t) (hu : P.underlying t = some (.map kt et)) (hr : HR P φ h w)
    {m : Option Nat} {x' : Value} {κ : Value → Heap → β} (hg : good (clearB fl [] (.map m) h κ)) (hx : VR φ (.map m) x') :
    ∃ h' w', good (κ (.tuple #[]) h') ∧ HR P φ h' w' ∧ Ext φ φ h h' w w' ∧ (Builtin.clear_ ts ty #[x']).run P w = .ok (.tuple #[]) w' := by
  cases m with
  | none =>
    cases hx
    exact ⟨h, w, by simpa [clearB] using hg, hr, Ext.refl _ _ _, by simp [Builtin.clear_, ht, run_und hu]⟩
  | some r =>
    simp only [clearB] at hg
    split at hg <;> try exact absurd hg hfl
    rename_i es clock hb
    obtain ⟨hlo, hg⟩ := setBlock_good hfl hg
    cases hx with
    | map hp =>
      rename_i pl
      obtain ⟨es', hO, h2⟩ := hr.mapAt hb hp
      obtain ⟨w', j1, j2, j3⟩ := hr.mapSet hlo (es1 := []) (es1' := #[]) (clock' := clock) hb hp .nil
      exact ⟨_, w', hg, j2, j3, by simp [Builtin.clear_, ht, run_und hu, run_getMap hO, j1]⟩

theorem bytesK_eq (bs : List UInt8) (κ : List Value → β) : bytesK bs κ = κ (bs.map fun b => .int .u8 (.ofNat b.toNat)) := by
  induction bs generalizing κ with
  | nil => rfl
  | cons b bs ih => simp only [bytesK, fnK_eq, ih, List.map_cons]

set_option maxHeartbeats 2000000 in
theorem compW_sound (hfl : ¬ good fl) {op : Op} {i : XI β} (hc : compW fl P op = some i) {tm : T Value} {ρ : Operand → Value} (hρ : ∀ y ∈ op.operands.toList, VR φ (evv tm y) (ρ y)) (hr : HR P φ h w)
    {κ : Value → Heap → β} (hg : good (i.run tm h κ)) {o : Oper} (ho : o.op = op) : WOut good P φ h w κ ((execOp ρ o).run P w) := by
  have unit : ∀ {s : Sem Unit}, (∃ h' w', good (κ undef h') ∧ HR P φ h' w' ∧ Ext φ φ h h' w w' ∧ s.run P w = .ok () w') → execOp ρ o = (do s; pure Next.skip) →
      WOut good P φ h w κ ((execOp ρ o).run P w) := by
    intro s ⟨h', w', g1, g2, g3, g4⟩ e
    exact ⟨φ, undef, undef, h', w', .skip, g1, VR.undef, g2, g3, by rw [e]; exact run_skipped g4, .inr ⟨rfl, rfl⟩⟩
  have val : ∀ {s : Sem Value}, (∃ φ' v v' h' w', good (κ v h') ∧ VR φ' v v' ∧ HR P φ' h' w' ∧ Ext φ φ' h h' w w' ∧ s.run P w = .ok v' w') → execOp ρ o = (do pure (Next.value (← s))) →
      WOut good P φ h w κ ((execOp ρ o).run P w) := by
    intro s ⟨φ', v, v', h', w', g1, g2, g3, g4, g5⟩ e
    exact ⟨φ', v, v', h', w', .value v', g1, g2, g3, g4, by rw [e]; exact run_valued g5, .inl rfl⟩
  cases op <;> simp only [compW] at hc <;> try (cases hc; done)
  case store t a x =>
    split at hc <;> try (cases hc; done)
    rename_i s hs
    cases hc; rw [XI.run_k2] at hg
    exact unit (storeV_sound hfl hs hr hg (hρ a (by simp [Op.operands])) (hρ x (by simp [Op.operands]))) (by simp only [execOp, ho])
  case mapUpdate t m k x =>
    split at hc <;> try (cases hc; done)
    rename_i kt et hu
    cases hc; rw [XI.run_k3] at hg
    exact unit (mapUpdateB_sound hfl hu hr hg (hρ m (by simp [Op.operands])) (hρ k (by simp [Op.operands])) (hρ x (by simp [Op.operands]))) (by simp only [execOp, ho])
  case insert t m k x =>
    split at hc <;> try (cases hc; done)
    rename_i kt et hu
    cases hc; rw [XI.run_k3] at hg
    exact unit (mapUpdateB_sound hfl hu hr hg (hρ m (by simp [Op.operands])) (hρ k (by simp [Op.operands])) (hρ x (by simp [Op.operands]))) (by simp only [execOp, ho])
  case range t x =>
    split at hc <;> try (cases hc; done)
    rename_i kt et hu
    cases hc; rw [XI.run_k1] at hg
    exact val (rangeB_sound hfl hu hr hg (hρ x (by simp [Op.operands]))) (by simp only [execOp, ho])
  case entry it =>
    cases hc; rw [XI.run_k1] at hg
    obtain ⟨v, v', g1, g2, g3⟩ := entryB_sound hfl hr hg (hρ it (by simp [Op.operands]))
    exact val ⟨φ, v, v', h, w, g1, g2, hr, Ext.refl _ _ _, g3⟩ (by simp only [execOp, ho])
  case convert src dst x =>
    split at hc <;> try (cases hc; done)
    rename_i e hus hud
    split at hc <;> try (cases hc; done)
    rename_i hue hsz
    cases hc; rw [XI.run_k1] at hg
    have hxv := hρ x (by simp [Op.operands])
    unfold strBytes at hg
    split at hg <;> try exact absurd hg hfl
    rename_i s hx
    rw [hx] at hxv
    generalize hy : ρ x = y at hxv
    cases hxv
    rw [bytesK_eq, layN_eq, Nat.zero_add] at hg
    split at hg <;> try exact absurd hg hfl
    rename_i hle; have hle := ble_t hle
    obtain ⟨hn, hg⟩ := newBlock_good hfl hg
    have hlen : (s.data.toList.map fun b => Value.int .u8 (.ofNat b.toNat)).length = s.size := by rw [List.length_map, Array.length_toList]; rfl
    rw [hlen] at hg hle
    have hcap : s.size ≤ grownCap w s.size 0 e := cut_ge _
    have hrow : (bytesRow s (grownCap w s.size 0 e)).size = grownCap w s.size 0 e := by
      simp only [bytesRow, Array.size_append, Array.size_map, Array.size_replicate]
      show s.size + _ = _
      omega
    have hOR : OR P φ (.ro s.size (lay (s.data.toList.map fun b => Value.int .u8 (.ofNat b.toNat)) .nil 0) e) ⟨w.drew.heap.size, grownCap w s.size 0 e, 1⟩
        (some (.cells (bytesRow s (grownCap w s.size 0 e)) e ((bytesRow s (grownCap w s.size 0 e)).size, (bytesRow s (grownCap w s.size 0 e)).size + 1))) := by
      refine ⟨rfl, by rw [hrow]; exact hcap, by omega, fun i v hget hi => ?_⟩
      rw [get_lay _ .nil 0 (by rw [hlen]; omega) i (by unfold Small; omega), if_pos (by rw [hlen]; omega)] at hget
      simp only [Nat.sub_zero, List.getElem?_map] at hget
      have hi2 : i < s.data.size := hi
      refine ⟨v, ?_, ?_⟩
      · simp only [bytesRow]
        rw [Array.getElem?_append_left (by simpa using hi2), Array.getElem?_map, ← Array.getElem?_toList]
        exact hget
      · cases hq : s.data.toList[i]? with
        | none => rw [hq] at hget; cases hget
        | some b => rw [hq] at hget; cases hget; exact .int _ _
    obtain ⟨m1, m2⟩ := hr.drew.fresh hn (grownCap w s.size 0 e) 1 hOR trivial
    refine val (s := convert src dst (ρ x)) ⟨_, _, _, _, _, hg, .sliceOpen (addPl_same _ _ _) hcap (by simp), m1, m2.ofDrew, ?_⟩ (by simp only [execOp, ho])
    rw [hy]
    exact run_bytes_of_string w src dst e s hus hud hue
  case call c =>
    obtain ⟨callee, args, ts⟩ := c
    cases callee <;> (try simp only at hc) <;> try (cases hc; done)
    rename_i b
    cases b <;> (try simp only at hc) <;> try (cases hc; done)
    case append =>
      split at hc <;> try contradiction
      rename_i s x _ hx
      have hargs : args = #[s, x] := Array.ext' (by simpa using hx)
      split at hc <;> try contradiction
      rename_i st xt ht hxt
      split at hc <;> try contradiction
      rename_i e hu
      split at hc <;> try contradiction
      rename_i inf xd hi hxd
      split at hc <;> try contradiction
      rename_i z size hz hby
      cases hc; rw [XI.run_k2] at hg
      exact val (appendB_sound (ty := o.type) hfl ht hu hz hi (ble_t hby) hxt hxd hr hg (hρ s (by simp [Op.operands, Call.operands, hargs])) (hρ x (by simp [Op.operands, Call.operands, hargs])))
        (by simp [execOp, ho, resolve, invoke, builtin, hargs])
    case copy =>
      split at hc <;> try contradiction
      rename_i d x _ hx
      have hargs : args = #[d, x] := Array.ext' (by simpa using hx)
      split at hc <;> try contradiction
      rename_i t ht
      split at hc <;> try contradiction
      rename_i e hu
      split at hc <;> try contradiction
      rename_i s hs
      cases hc; rw [XI.run_k2] at hg
      obtain ⟨v, h', w', g⟩ := copyB_sound (ty := o.type) hfl ht hu hs hr hg (hρ d (by simp [Op.operands, Call.operands, hargs])) (hρ x (by simp [Op.operands, Call.operands, hargs]))
      exact val ⟨φ, v, v, h', w', g⟩ (by simp [execOp, ho, resolve, invoke, builtin, hargs])
    case clear =>
      split at hc <;> try contradiction
      rename_i x _ hx
      have hargs : args = #[x] := Array.ext' (by simpa using hx)
      have hxv : VR φ (evv tm x) (ρ x) := hρ x (by simp [Op.operands, Call.operands, hargs])
      split at hc <;> try contradiction
      rename_i t ht
      split at hc <;> try contradiction
      · rename_i e hu
        split at hc <;> try contradiction
        rename_i z hz
        cases hc; rw [XI.run_k1] at hg
        obtain ⟨h', w', g1, g2, g3, g4⟩ := clearB_slice_sound (ty := o.type) hfl ht hu hz hr hg hxv
        exact val ⟨φ, .tuple #[], .tuple #[], h', w', g1, VR.undef, g2, g3, g4⟩ (by simp [execOp, ho, resolve, invoke, builtin, hargs])
      · rename_i kt et hu
        cases hc; rw [XI.run_k1] at hg
        split at hg <;> try exact absurd hg hfl
        rename_i m hm
        rw [hm] at hxv
        obtain ⟨h', w', g1, g2, g3, g4⟩ := clearB_map_sound (ty := o.type) hfl ht hu hr hg hxv
        exact val ⟨φ, .tuple #[], .tuple #[], h', w', g1, VR.undef, g2, g3, g4⟩ (by simp [execOp, ho, resolve, invoke, builtin, hargs])
    case cap =>
      split at hc <;> try contradiction
      rename_i x _ hx
      have hargs : args = #[x] := Array.ext' (by simpa using hx)
      have hxv : VR φ (evv tm x) (ρ x) := hρ x (by simp [Op.operands, Call.operands, hargs])
      split at hc <;> try contradiction
      rename_i t ht
      split at hc <;> try contradiction
      rename_i e hu
      cases hc; rw [XI.run_k1] at hg
      have hex : execOp ρ o = (do pure (Next.value (← Builtin.cap_ ts o.type #[ρ x]))) := by simp [execOp, ho, resolve, invoke, builtin, hargs]
      split at hg <;> try exact absurd hg hfl
      rename_i a n c hv
      split at hg <;> try exact absurd hg hfl
      rename_i hle; have hle := ble_t hle
      rw [hv] at hxv
      obtain ⟨a', e3⟩ : ∃ a', ρ x = .slice a' n c := by
        generalize ρ x = z at hxv
        cases hxv with
        | sliceNil _ => exact ⟨_, rfl⟩
        | slice _ _ _ => exact ⟨_, rfl⟩
        | sliceOpen _ _ _ => exact absurd hle (by unfold openCap; omega)
        | sliceAny _ _ _ => exact absurd hle (by unfold anyCap; omega)
      rw [e3] at hex
      exact val ⟨φ, _, _, h, w, hg, .int _ _, hr, Ext.refl _ _ _, by simp [Builtin.cap_, ht, run_und hu, goInt]⟩ hex
    case delete =>
      split at hc <;> try contradiction
      rename_i m k _ hx
      have hargs : args = #[m, k] := Array.ext' (by simpa using hx)
      split at hc <;> try contradiction
      rename_i t ht
      split at hc <;> try contradiction
      rename_i kt et hu
      cases hc; rw [XI.run_k2] at hg
      obtain ⟨h', w', g1, g2, g3, g4⟩ := deleteB_sound (ty := o.type) hfl ht hu hr hg (hρ m (by simp [Op.operands, Call.operands, hargs])) (hρ k (by simp [Op.operands, Call.operands, hargs]))
      exact val ⟨φ, .tuple #[], .tuple #[], h', w', g1, VR.undef, g2, g3, g4⟩ (by simp [execOp, ho, resolve, invoke, builtin, hargs])
    case min =>
      split at hc <;> try contradiction
      rename_i a b _ hx
      have hargs : args = #[a, b] := Array.ext' (by simpa using hx)
      have ha : VR φ (evv tm a) (ρ a) := hρ a (by simp [Op.operands, Call.operands, hargs])
      have hb : VR φ (evv tm b) (ρ b) := hρ b (by simp [Op.operands, Call.operands, hargs])
      cases hc; rw [XI.run_k2] at hg
      have hex : execOp ρ o = (do pure (Next.value (← Builtin.min_ ts o.type #[ρ a, ρ b]))) := by simp [execOp, ho, resolve, invoke, builtin, hargs]
      split at hg <;> try exact absurd hg hfl
      rename_i k x k' y e1 e2
      rw [e1] at ha; rw [e2] at hb
      have e3 : ρ a = .int k x := by generalize ρ a = z at ha; cases ha; rfl
      have e4 : ρ b = .int k' y := by generalize ρ b = z at hb; cases hb; rfl
      have hrun := run_min_int2 (P := P) (w := w) ts o.type k k' x y
      rw [e3, e4] at hex
      split at hg
      · rename_i hlt
        rw [iltB_eq, decide_eq_true_eq] at hlt
        rw [if_pos hlt] at hrun
        exact val ⟨φ, _, _, h, w, hg, .int _ _, hr, Ext.refl _ _ _, hrun⟩ hex
      · rename_i hlt
        rw [iltB_eq, decide_eq_false_iff_not] at hlt
        rw [if_neg hlt] at hrun
        exact val ⟨φ, _, _, h, w, hg, .int _ _, hr, Ext.refl _ _ _, hrun⟩ hex
    case max =>
      split at hc <;> try contradiction
      rename_i a b _ hx
      have hargs : args = #[a, b] := Array.ext' (by simpa using hx)
      have ha : VR φ (evv tm a) (ρ a) := hρ a (by simp [Op.operands, Call.operands, hargs])
      have hb : VR φ (evv tm b) (ρ b) := hρ b (by simp [Op.operands, Call.operands, hargs])
      cases hc; rw [XI.run_k2] at hg
      have hex : execOp ρ o = (do pure (Next.value (← Builtin.max_ ts o.type #[ρ a, ρ b]))) := by simp [execOp, ho, resolve, invoke, builtin, hargs]
      split at hg <;> try exact absurd hg hfl
      rename_i k x k' y e1 e2
      rw [e1] at ha; rw [e2] at hb
      have e3 : ρ a = .int k x := by generalize ρ a = z at ha; cases ha; rfl
      have e4 : ρ b = .int k' y := by generalize ρ b = z at hb; cases hb; rfl
      have hrun := run_max_int2 (P := P) (w := w) ts o.type k k' x y
      rw [e3, e4] at hex
      split at hg
      · rename_i hlt
        rw [iltB_eq, decide_eq_true_eq] at hlt
        rw [if_pos hlt] at hrun
        exact val ⟨φ, _, _, h, w, hg, .int _ _, hr, Ext.refl _ _ _, hrun⟩ hex
      · rename_i hlt
        rw [iltB_eq, decide_eq_false_iff_not] at hlt
        rw [if_neg hlt] at hrun
        exact val ⟨φ, _, _, h, w, hg, .int _ _, hr, Ext.refl _ _ _, hrun⟩ hex

end Go.Vai
