/-
  PROVED HERE: a part of an interpreter for the model's code, and that it is sound.
  The interpreter is sound, part 6: the operations that make blocks, and those that write.
-/
import Derived.Test.YtphbjimlpemadaaVaiS5
set_option linter.unusedVariables false
set_option linter.unusedSimpArgs false
namespace Go.Vai
open Go
variable {β : Type} {fl : β} {good : β → Prop} {P : Program} {φ : Emb} {h : Heap} {w : World} {t : TypeId}

/-! ## cells laid, cells stored -/
noncomputable def lay : List Value → T Value → Nat → T Value
  | [], c, _ => c
  | v :: vs, c, off => lay vs (c.upd off v) (off + 1)
theorem layN_eq (vs : List Value) : ∀ (c : T Value) (off : Nat) (κ : T Value → Nat → β), layN vs c off κ = κ (lay vs c off) (off + vs.length) := by
  induction vs with
  | nil => intro c off κ; rfl
  | cons v vs ih =>
    intro c off κ
    show T.set c off v (fun c => fnK (Nat.succ off) fun off => layN vs c off κ) = _
    rw [T.set_eq, fnK_eq, ih]
    simp only [lay, List.length_cons]
    congr 1; omega
theorem get_lay (vs : List Value) : ∀ (c : T Value) (off : Nat), off + vs.length ≤ 2 ^ 199 → ∀ i, Small i → (lay vs c off).get i = if off ≤ i ∧ i < off + vs.length then vs[i - off]? else c.get i := by
  induction vs with
  | nil => intro c off _ i _; simp [lay]; omega
  | cons v vs ih =>
    intro c off ho i hi
    simp only [List.length_cons] at ho
    have hso : Small off := by unfold Small; omega
    rw [lay, ih _ _ (by omega) i hi, T.get_upd c v hso hi]
    by_cases h1 : off + 1 ≤ i ∧ i < off + 1 + vs.length
    · rw [if_pos h1, if_pos (by simp; omega), show i - off = (i - (off + 1)) + 1 by omega]; simp
    · rw [if_neg h1]
      by_cases h2 : off = i
      · subst h2; simp
      · rw [if_neg h2, if_neg (by simp; omega)]

theorem small_of_le {n m : Nat} (h : n ≤ m) (hm : m ≤ 4611686018427387904) : Small n := by unfold Small; omega

theorem cellsK_good (hfl : ¬ good fl) {vs : List Value} {e : TypeId} {opn : Bool} {κ : AObj → β} (hg : good (cellsK fl vs e opn κ)) :
    vs.length ≤ 1000000000000 ∧ good (κ (.cells vs.length (lay vs .nil 0) e opn)) := by
  unfold cellsK at hg
  rw [layN_eq] at hg
  simp only [Nat.zero_add] at hg
  split at hg
  · rename_i hle; exact ⟨ble_t hle, hg⟩
  · exact absurd hg hfl

theorem OR_new {vs vs' : List Value} (hv : F2 (VR φ) vs vs') (hl : vs.length ≤ 1000000000000) (e : TypeId) (pl : Pl) (rest : List Value) (opn : Bool) (ho : opn = true → (vs' ++ rest).length = pl.sz ∧ szOf P e = some pl.e ∧ 0 < pl.e) :
    OR P φ (.cells vs.length (lay vs .nil 0) e opn) pl (some (.cells (vs' ++ rest).toArray e (0, 0))) := by
  have hlen := hv.length
  refine ⟨rfl, rfl, by simp; omega, by omega, fun h => by simpa using ho h, ?_⟩
  intro i v hget hi
  rw [get_lay vs .nil 0 (by omega) i (by unfold Small; omega), if_pos (by omega)] at hget
  simp only [Nat.sub_zero] at hget
  obtain ⟨v', h1, h2⟩ := hv.get i v hget
  refine ⟨v', ?_, h2⟩
  have : i < vs'.length := by omega
  simp [List.getElem?_append_left this, h1]

theorem newBlock_good (hfl : ¬ good fl) {o : AObj} {κ : Nat → Heap → β} (hg : good (newBlock fl o h κ)) : h.nx ≤ 1000000000000 ∧ good (κ h.nx ⟨h.nx + 1, h.bl.upd h.nx o, h.lo⟩) := by
  unfold newBlock at hg
  split at hg
  · rename_i hle
    rw [T.set_eq, fnK_eq] at hg
    exact ⟨ble_t hle, hg⟩
  · exact absurd hg hfl

/-- a place more -/
def addPl (φ : Emb) (b : Nat) (pl : Pl) : Emb := fun x => if x = b then some pl else φ x
theorem addPl_same (φ : Emb) (b : Nat) (pl : Pl) : addPl φ b pl b = some pl := by simp [addPl]
theorem addPl_sub {b : Nat} {pl : Pl} (hb : φ b = none) : Sub φ (addPl φ b pl) := fun x p e => by
  unfold addPl
  split
  · rename_i hx; subst hx; rw [hb] at e; cases e
  · exact e

/-- an abstract block that has no place yet -/
theorem HR.unborn (hr : HR P φ h w) (hn : h.nx ≤ 1000000000000) (o : AObj) : HR P φ ⟨h.nx + 1, h.bl.upd h.nx o, h.lo⟩ w := by
  have hs : Small h.nx := by unfold Small; omega
  have get_ne : ∀ b, b < h.nx → (h.bl.upd h.nx o).get b = h.bl.get b := fun b hb => T.get_upd_ne _ _ hs (by unfold Small; omega) (by omega)
  refine ⟨?_, ?_, ?_, ?_, ?_, Nat.le_succ_of_le hr.lo⟩
  · intro b o' pl hb hp
    have := (hr.dom b pl hp).1
    exact hr.obj b o' pl ((get_ne b this) ▸ hb) hp
  · intro b pl hp; have := hr.dom b pl hp; exact ⟨by show b < h.nx + 1; omega, this.2⟩
  · intro b o' hsb hb
    show b < h.nx + 1
    rw [T.get_upd _ _ hs hsb] at hb
    split at hb
    · omega
    · have := hr.keys b o' hsb hb; omega
  · show h.nx + 1 < 2 ^ 199; omega
  · intro b b' o1 o2 pl pl' g1 g2 l1 l2 p1 p2 e
    have d1 := (hr.dom b pl p1).1
    have d2 := (hr.dom b' pl' p2).1
    exact hr.inj b b' o1 o2 pl pl' ((get_ne b d1) ▸ g1) ((get_ne b' d2) ▸ g2) l1 l2 p1 p2 e

theorem alloc_get_lt {O : Obj} {B : Nat} (hB : B < w.heap.size) : (w.alloc O).heap[B]? = w.heap[B]? := by
  show (w.heap.push O)[B]? = _
  rw [Array.getElem?_push, if_neg (by omega)]
theorem alloc_get_new {O : Obj} : (w.alloc O).heap[w.heap.size]? = some O := by
  show (w.heap.push O)[w.heap.size]? = _
  simp

/-- a block without a place gets a new one -/
theorem HR.birth (hr : HR P φ h w) {b : Nat} {o : AObj} (hb : h.bl.get b = some o) (hp : φ b = none) (hbn : b < h.nx) {O : Obj} (sz e : Nat) (ho : OR P φ o ⟨w.heap.size, sz, e⟩ (some O)) :
    HR P (addPl φ b ⟨w.heap.size, sz, e⟩) h (w.alloc O) := by
  have hsub := addPl_sub (pl := ⟨w.heap.size, sz, e⟩) hp
  refine ⟨?_, ?_, hr.keys, hr.nxs, ?_, hr.lo⟩
  · intro x o' pl hx hxp
    unfold addPl at hxp
    split at hxp
    · rename_i he; subst he; cases hxp
      rw [hb] at hx; cases hx
      show OR P _ o _ ((w.alloc O).heap[w.heap.size]?)
      rw [alloc_get_new]
      exact ho.mono hsub
    · have hB := (hr.dom x pl hxp).2
      rw [alloc_get_lt hB]
      exact (hr.obj x o' pl hx hxp).mono hsub
  · intro x pl hxp
    unfold addPl at hxp
    split at hxp
    · rename_i he; subst he; cases hxp; exact ⟨hbn, by simp⟩
    · have := hr.dom x pl hxp; exact ⟨this.1, by simp; omega⟩
  · intro x x' o1 o2 pl pl' g1 g2 l1 l2 p1 p2 e
    unfold addPl at p1 p2
    split at p1 <;> split at p2
    · omega
    · rename_i h1 h2; cases p1; have := (hr.dom x' pl' p2).2; simp at e; omega
    · rename_i h1 h2; cases p2; have := (hr.dom x pl p1).2; simp at e; omega
    · exact hr.inj x x' o1 o2 pl pl' g1 g2 l1 l2 p1 p2 e

theorem Ext.birth {φ0 : Emb} {h0 : Heap} {w0 : World} (hx : Ext φ0 φ h0 h w0 w) {b : Nat} (hp : φ b = none) (hb : h0.nx ≤ b) (O : Obj) (hO : UF (some O)) (sz e : Nat) : Ext φ0 (addPl φ b ⟨w.heap.size, sz, e⟩) h0 h w0 (w.alloc O) where
  sub := hx.sub.trans (addPl_sub hp)
  new := fun x pl e0 e1 => by
    unfold addPl at e1
    split at e1
    · rename_i he; subst he; cases e1; exact ⟨hb, .inl hx.size⟩
    · exact hx.new x pl e0 e1
  nx := hx.nx
  size := Nat.le_trans hx.size (by simp)
  frC := fun B hB hn => by
    have := hx.size
    rw [alloc_get_lt (by omega)]; exact hx.frC B hB hn
  frA := hx.frA
  tape := hx.tape
  os := hx.os
  output := hx.output
  lo := hx.lo
  frL := hx.frL
  fz := fun B h => by
    have h1 := hx.fz B h
    rcases Nat.lt_trichotomy B w.heap.size with hl | hl | hl
    · rw [alloc_get_lt hl]; exact h1
    · subst hl
      have : (w.alloc O).heap[w.heap.size]? = some O := by show (w.heap.push O)[w.heap.size]? = _; simp
      rw [this]; exact hO
    · have : (w.alloc O).heap[B]? = none := by show (w.heap.push O)[B]? = _; simp; omega
      rw [this]; trivial

theorem Ext.unborn {φ0 : Emb} {h0 : Heap} {w0 : World} (hx : Ext φ0 φ h0 h w0 w) (hlo : h.lo ≤ h.nx) (hn : h.nx ≤ 1000000000000) (o : AObj) : Ext φ0 φ h0 ⟨h.nx + 1, h.bl.upd h.nx o, h.lo⟩ w0 w where
  sub := hx.sub
  new := hx.new
  nx := Nat.le_trans hx.nx (Nat.le_succ _)
  size := hx.size
  frC := hx.frC
  frA := fun b hb hp => by
    have := hx.nx
    rw [← hx.frA b hb hp]
    exact T.get_upd_ne _ _ (by unfold Small; omega) (by unfold Small; omega) (by omega)
  tape := hx.tape
  os := hx.os
  output := hx.output
  fz := hx.fz
  lo := hx.lo
  frL := fun b hb => by
    have := hx.lo
    rw [← hx.frL b hb]
    exact T.get_upd_ne _ _ (by unfold Small; omega) (by unfold Small; omega) (by omega)

/-- a new block, with its place -/
theorem HR.fresh (hr : HR P φ h w) (hn : h.nx ≤ 1000000000000) {o : AObj} {O : Obj} (sz e : Nat) (ho : OR P φ o ⟨w.heap.size, sz, e⟩ (some O)) (hl : o.live) :
    HR P (addPl φ h.nx ⟨w.heap.size, sz, e⟩) ⟨h.nx + 1, h.bl.upd h.nx o, h.lo⟩ (w.alloc O) ∧ Ext φ (addPl φ h.nx ⟨w.heap.size, sz, e⟩) h ⟨h.nx + 1, h.bl.upd h.nx o, h.lo⟩ w (w.alloc O) := by
  have hnone : φ h.nx = none := by
    cases hp : φ h.nx with
    | none => rfl
    | some pl => have := (hr.dom _ _ hp).1; omega
  exact ⟨(hr.unborn hn o).birth (T.get_upd_same _ _ _) hnone (Nat.lt_succ_self _) sz e ho, ((Ext.refl φ h w).unborn hr.lo hn o).birth hnone (Nat.le_refl _) O (UF_of_OR ho hl) sz e⟩

/-! ## operations that make blocks -/
/-- the value that names a block -/
def Names (mk : Nat → Value) : Prop := ∀ (φ : Emb) (b : Nat) (pl : Pl), φ b = some pl → VR φ (mk b) (mk pl.B)

theorem names_ptr : Names ptrTo := fun _ _ _ h => .ptr h
theorem names_map : Names mapTo := fun _ _ _ h => .map h
theorem names_slice {n c : Nat} (h1 : n ≤ c) (h2 : c < openCap) : Names (sliceTo n c) := fun _ _ _ h => .slice h h1 h2

theorem repeatL_length (zs : List Value) (n : Nat) : (repeatL zs n).length = n * zs.length := by
  induction n with
  | zero => simp [repeatL]
  | succ n ih => simp [repeatL, ih, Nat.succ_mul]; omega
theorem repeatL_get (zs : List Value) (n i : Nat) (hi : i < n * zs.length) : (repeatL zs n)[i]? = zs[i % zs.length]? := by
  induction n generalizing i with
  | zero => omega
  | succ n ih =>
    rw [Nat.succ_mul] at hi
    simp only [repeatL]
    rcases Nat.lt_or_ge i zs.length with h1 | h1
    · rw [List.getElem?_append_left h1, Nat.mod_eq_of_lt h1]
    · rw [List.getElem?_append_right h1, ih _ (by omega)]
      congr 1
      exact (Nat.mod_eq_sub_mod h1).symm
theorem zeros_eq (z : Array Value) (n m : Nat) (hm : m = n * z.size) : (Array.range m).map (fun i => z[i % z.size]!) = (repeatL z.toList n).toArray := by
  subst hm
  apply Array.ext'
  simp
  apply List.ext_getElem?
  intro i
  by_cases hi : i < n * z.size
  · have h0 : 0 < z.size := by rcases Nat.eq_zero_or_pos z.size with h | h; · rw [h] at hi; omega
                               · exact h
    have h1 : i % z.size < z.size := Nat.mod_lt _ h0
    rw [repeatL_get _ _ _ (by simpa using hi)]
    simp [hi, h1, getElem!_pos]
  · rw [List.getElem?_eq_none (by simpa using hi), List.getElem?_eq_none (by rw [repeatL_length]; simpa using hi)]

theorem repeatL_basic {zs : List Value} (hz : zs.all basicOk = true) (n : Nat) : (repeatL zs n).all basicOk = true := by
  induction n with
  | zero => rfl
  | succ n ih => simp only [repeatL, List.all_append, hz, ih, Bool.and_self]

theorem zOf_sound {z : List Value} {s : Nat} (h : zOf P t = some (z, s)) : zeroOf P t = some z ∧ szOf P t = some s ∧ z.length = s ∧ 0 < s := by
  unfold zOf at h
  split at h <;> try (cases h; done)
  rename_i z' s' h1 h2
  split at h <;> try (cases h; done)
  rename_i hl
  cases h
  exact ⟨h1, h2, beq_t hl, Nat.succ_pos _⟩

theorem compA_sound (hfl : ¬ good fl) {op : Op} {i : XA β} (hc : compA fl P op = some i) {tm : T Value} {ρ : Operand → Value} (hρ : ∀ y ∈ op.operands.toList, VR φ (evv tm y) (ρ y))
    {κ : AObj → (Nat → Value) → β} (hg : good (i.run tm κ)) {o : Oper} (ho : o.op = op) :
    ∃ ob mk O, good (κ ob mk) ∧ ob.live ∧ (∀ pl, OR P φ ob pl (some O)) ∧ Names mk ∧ (execOp ρ o).run P w = .ok (.value (mk w.heap.size)) (w.alloc O) := by
  have one : ∀ {vs vs' : List Value} {e : TypeId} {mk : Nat → Value} , F2 (VR φ) vs vs' → good (cellsK fl vs e false fun o => κ o mk) → Names mk →
      (∀ O, O = Obj.cells vs'.toArray e (0, 0) → (execOp ρ o).run P w = .ok (.value (mk w.heap.size)) (w.alloc O)) →
      ∃ ob mk O, good (κ ob mk) ∧ ob.live ∧ (∀ pl, OR P φ ob pl (some O)) ∧ Names mk ∧ (execOp ρ o).run P w = .ok (.value (mk w.heap.size)) (w.alloc O) := by
    intro vs vs' e mk hv hg hn hrun
    obtain ⟨h1, h2⟩ := cellsK_good hfl hg
    refine ⟨_, mk, .cells vs'.toArray e (0, 0), h2, trivial, fun pl => ?_, hn, hrun _ rfl⟩
    have := OR_new (P := P) hv h1 e pl [] false (fun e => by cases e)
    simpa using this
  cases op <;> simp only [compA] at hc <;> try (cases hc; done)
  case alloc e =>
    split at hc <;> try (cases hc; done)
    rename_i z hz
    cases hc; rw [XA.run_k0] at hg
    obtain ⟨v, inf, hi, hzv, rfl, hb⟩ := info_of_zero hz
    refine one (basicL_VR hb) hg names_ptr fun O hO => ?_
    subst hO
    simp [execOp, ho, Instr.alloc, run_zero hi hzv, newVar, newRow, ptrTo]
  case box e x =>
    cases hc; rw [XA.run_k1] at hg
    refine one (hρ x (by simp [Op.operands])).cells hg names_ptr fun O hO => ?_
    subst hO
    simp [execOp, ho, Instr.box, newVar, newRow, ptrTo]
  case buildSlice t len parts =>
    split at hc <;> try (cases hc; done)
    rename_i e hu
    split at hc <;> try (cases hc; done)
    rename_i z s hz hlen
    split at hc <;> try (cases hc; done)
    rename_i ps hps hs
    cases hc; rw [XA.run_kn] at hg
    rw [List.map_map] at hg
    obtain ⟨hz1, hz2, hz3, hz4⟩ := zOf_sound hz
    obtain ⟨v, inf, hi, hzv, hzl, hb⟩ := info_of_zero hz1
    have hlen := ble_t hlen
    have hs := ble_t hs
    obtain ⟨r, r', g1, g2, g3⟩ := fillB_sound (φ := φ) hfl tm ρ _ parts.toList ps hps (fun p hpm => hρ p.2 (by simp [Op.operands]; exact ⟨p.1, by simpa using hpm⟩)) _ _ (basicL_VR (repeatL_basic hb len)) _ hg
    refine one g2 g1 (names_slice (Nat.le_refl _) (by rw [openCap_val]; omega)) fun O hO => ?_
    subst hO
    have h1 : ¬ len * s > 2 ^ 24 := by
      have : len * s ≤ 10000 * 1000 := Nat.mul_le_mul hlen hs
      omega
    have hsize : v.cells.size = s := by rw [← hz3, hzl]; simp
    have h2 : (if len * s = 0 then (#[] : Array Value) else v.cells) = (if len * s = 0 then #[] else v.cells) := rfl
    have h3 : (Array.range (len * s)).map (fun i => v.cells[i % v.cells.size]!) = (repeatL z len).toArray := by
      rw [zeros_eq v.cells len (len * s) (by rw [hsize]), hzl]
    have g3' : Instr.fill (fun i => some (i * s, s)) (repeatL z len).toArray (parts.toList.map fun p => (p.1, ρ p.2)) = some r'.toArray := g3
    by_cases h0 : len * s = 0
    · have hl0 : len = 0 := by rcases Nat.mul_eq_zero.1 h0 with h | h <;> omega
      subst hl0
      simp [repeatL] at g3'
      simp [execOp, ho, Instr.buildSlice, run_und hu, run_size hz2, g3', newRow, sliceTo, Array.range_zero']
    · simp [execOp, ho, Instr.buildSlice, run_und hu, run_size hz2, h1, h0, run_zero hi hzv, h3, g3', newRow, sliceTo]
  case makeMap t r =>
    have fin : good (κ (.map [] 0) mapTo) → (execOp ρ o).run P w = .ok (.value (mapTo w.heap.size)) (w.alloc (.map #[] 0)) →
        ∃ ob mk O, good (κ ob mk) ∧ ob.live ∧ (∀ pl, OR P φ ob pl (some O)) ∧ Names mk ∧ (execOp ρ o).run P w = .ok (.value (mk w.heap.size)) (w.alloc O) :=
      fun g1 g2 => ⟨_, mapTo, .map #[] 0, g1, trivial, fun pl => ⟨rfl, .nil⟩, names_map, g2⟩
    split at hc
    · cases hc; rw [XA.run_k0] at hg
      exact fin hg (by simp [execOp, ho, Instr.makeMap, mapTo])
    · rename_i x
      split at hc <;> try (cases hc; done)
      rename_i hu
      cases hc; rw [XA.run_k1] at hg
      split at hg <;> try exact absurd hg hfl
      rename_i k n hx
      have hv := hρ x (by simp [Op.operands])
      rw [hx] at hv
      generalize hy : ρ x = y at hv
      cases hv
      exact fin hg (by simp [execOp, ho, Instr.makeMap, mapTo, run_und hu, hy, asInt, asIntOf])
  case makeSlice t l c =>
    split at hc <;> try (cases hc; done)
    rename_i e hu
    split at hc <;> try (cases hc; done)
    rename_i z s inf hz hi
    split at hc <;> try (cases hc; done)
    rename_i hbytes
    have hbytes := ble_t hbytes
    cases hc; rw [XA.run_k2] at hg
    split at hg <;> try exact absurd hg hfl
    rename_i k1 l' k2 c' hl hcc
    split at hg <;> try exact absurd hg hfl
    rename_i hle hcle
    have hle := ble_t hle
    have hcle := ble_t hcle
    have hv1 := hρ l (by simp [Op.operands])
    have hv2 := hρ c (by simp [Op.operands])
    rw [hl] at hv1
    rw [hcc] at hv2
    generalize hy1 : ρ l = y1 at hv1
    generalize hy2 : ρ c = y2 at hv2
    cases hv1; cases hv2
    obtain ⟨hz1, hz2, hz3, hz4⟩ := zOf_sound hz
    obtain ⟨v, inf', hi', hzv, hzl, hb⟩ := info_of_zero hz1
    rw [hi] at hi'; cases hi'
    refine one (basicL_VR (repeatL_basic hb c')) hg (names_slice hle (by rw [openCap_val]; omega)) fun O hO => ?_
    subst hO
    have w1 : IntKind.i64.wrap (l' : Int) = l' := IntWalk.i64_in _ ⟨by omega, by omega⟩
    have w2 : IntKind.i64.wrap (c' : Int) = c' := IntWalk.i64_in _ ⟨by omega, by omega⟩
    have hbc : (inf.bytes : Int) * (c' : Int) ≤ 2 ^ 48 := by
      have : inf.bytes * c' ≤ 1000000 * 1000000 := Nat.mul_le_mul hbytes hcle
      have h2 : (inf.bytes : Int) * (c' : Int) = ((inf.bytes * c' : Nat) : Int) := by simp
      rw [h2]
      omega
    have hsize : v.cells.size = s := by rw [← hz3, hzl]; simp
    have c1 : decide ((c' : Int) < 0) = false := decide_eq_false (by omega)
    have c2 : decide ((inf.bytes : Int) * (c' : Int) > 2 ^ 48) = false := decide_eq_false (by omega)
    have c3 : ¬ ((l' : Int) < 0) := by omega
    have c4 : ¬ ((l' : Int) > (c' : Int)) := by omega
    have h3 : (Array.range (c' * s)).map (fun i => v.cells[i % v.cells.size]!) = (repeatL z c').toArray := by
      rw [zeros_eq v.cells c' (c' * s) (by rw [hsize]), hzl]
    have hA : (asInt (.int k1 (l' : Int))).run P w = .ok (l' : Int) w := by simp [asInt, asIntOf]
    have hB : (asInt (.int k2 (c' : Int))).run P w = .ok (c' : Int) w := by simp [asInt, asIntOf]
    have hrun : (Instr.makeSlice t (.int k1 (l' : Int)) (.int k2 (c' : Int))).run P w = .ok (sliceTo l' c' w.heap.size) (w.alloc (.cells (repeatL z c').toArray e (0, 0))) := by
      unfold Instr.makeSlice
      simp only [Sem.run_bind, run_und hu, Result.andThen_ok, hA, hB, run_info hi, w1, w2]
      simp only [c1, c2, Bool.or_self, c3, c4]
      by_cases h0 : c' * s = 0
      · have hc0 : c' = 0 := by rcases Nat.mul_eq_zero.1 h0 with h | h <;> omega
        subst hc0
        simp [run_size hz2, newRow, sliceTo, repeatL, Array.range_zero']
      · have h3' : (Array.range (c' * s)).map (fun i => v.cells[i % v.cells.size]!) = (repeatL z c').toArray := h3
        simp [run_size hz2, h0, run_zero hi hzv, h3', newRow, sliceTo]
    simp only [execOp, ho, hy1, hy2]
    exact run_valued hrun

/-! ## stores -/
theorem storeN_good (hfl : ¬ good fl) (n : Nat) : ∀ (vs : List Value) (c : T Value) (off : Nat) (κ : T Value → β), good (storeN fl n vs c off κ) →
    (∀ v ∈ vs, oneC v = true) ∧ (vs ≠ [] → off + vs.length ≤ n) ∧ good (κ (lay vs c off)) := by
  intro vs
  induction vs with
  | nil => intro c off κ hg; exact ⟨fun v hv => (by cases hv), fun hh => absurd rfl hh, hg⟩
  | cons v vs ih =>
    intro c off κ hg
    have hg' : good (Bool.rec (motive := fun _ => β) fl (Bool.rec (motive := fun _ => β) fl (T.set c off v fun c => storeN fl n vs c (Nat.succ off) κ) (Nat.ble (Nat.succ off) n)) (oneC v)) := hg
    cases h1 : oneC v with
    | false => rw [h1] at hg'; exact absurd hg' hfl
    | true =>
      rw [h1] at hg'
      cases h2 : Nat.ble (Nat.succ off) n with
      | false => rw [h2] at hg'; exact absurd hg' hfl
      | true =>
        rw [h2] at hg'
        simp only [T.set_eq] at hg'
        obtain ⟨g1, g2, g3⟩ := ih _ _ _ hg'
        refine ⟨fun u hu => ?_, fun _ => ?_, g3⟩
        · simp at hu; rcases hu with rfl | hu
          · exact h1
          · exact g1 u hu
        · have := ble_t h2
          cases vs with
          | nil => simp; omega
          | cons x vs => have := g2 (by simp); simp at this ⊢; omega

theorem oneC_VR {v v' : Value} (h1 : oneC v = true) (hv : VR φ v v') : v'.oneCell' = true := by
  cases hv <;> first | rfl | (simp [oneC] at h1)

/-- the block of cells behind an abstract one -/
theorem HR.rowAt (hr : HR P φ h w) {b n e : Nat} {c : T Value} {op : Bool} {pl : Pl} (hb : h.bl.get b = some (.cells n c e op)) (hp : φ b = some pl) :
    ∃ C, w.heap[pl.B]? = some (.cells C e (0, 0)) ∧ n ≤ C.size ∧ n ≤ 4611686018427387904 ∧ (op = true → C.size = pl.sz ∧ szOf P e = some pl.e ∧ 0 < pl.e) ∧ ∀ i v, c.get i = some v → i < n → ∃ v', C[i]? = some v' ∧ VR φ v v' := by
  have := hr.obj b _ pl hb hp
  cases hO : w.heap[pl.B]? with
  | none => rw [hO] at this; exact this.elim
  | some O =>
    rw [hO] at this
    cases O <;> simp only [OR] at this <;> try exact this.elim
    obtain ⟨rfl, rfl, h3, h4, h5, h6⟩ := this
    exact ⟨_, rfl, h3, h4, h5, h6⟩

theorem small_nx (hr : HR P φ h w) {b : Nat} (hb : b ≤ h.nx) : Small b := by have := hr.nxs; unfold Small; omega

/-- one block turned, its place kept -/
theorem HR.turn (hr : HR P φ h w) {b : Nat} (hlo : h.lo ≤ b) {o : AObj} {pl : Pl} (hp : φ b = some pl) (hlive : ∃ q, h.bl.get b = some q ∧ q.live) {w' : World}
    (hsz : w'.heap.size = w.heap.size) (hoth : ∀ k, k ≠ pl.B → w'.heap[k]? = w.heap[k]?)
    (ho : OR P φ o pl w'.heap[pl.B]?) (ht : w'.tape = w.tape) (hos : w'.os = w.os) (hout : w'.output = w.output) (hu : o.live ∨ (UF w.heap[pl.B]? → UF w'.heap[pl.B]?)) :
    HR P φ ⟨h.nx, h.bl.upd b o, h.lo⟩ w' ∧ Ext φ φ h ⟨h.nx, h.bl.upd b o, h.lo⟩ w w' := by
  have hbn := (hr.dom b pl hp).1
  have hsb : Small b := small_nx hr (Nat.le_of_lt hbn)
  have get_ne : ∀ x, x < h.nx → x ≠ b → (h.bl.upd b o).get x = h.bl.get x := fun x hx hxb => T.get_upd_ne _ _ hsb (small_nx hr (Nat.le_of_lt hx)) (Ne.symm hxb)
  obtain ⟨q, hq1, hq2⟩ := hlive
  constructor
  · refine ⟨?_, ?_, ?_, hr.nxs, ?_, hr.lo⟩
    · intro x o' pl' hx hxp
      by_cases hxb : x = b
      · subst hxb
        rw [hp] at hxp; cases hxp
        rw [T.get_upd_same] at hx; cases hx
        exact ho
      · have hxn := (hr.dom x pl' hxp).1
        have hx' : h.bl.get x = some o' := (get_ne x hxn hxb) ▸ hx
        by_cases hB : pl'.B = pl.B
        · -- only a dead block may lie there
          have hd : ¬ o'.live := fun hl => hxb (hr.inj x b o' q pl' pl hx' hq1 hl hq2 hxp hp hB)
          have h1 := hr.obj x o' pl' hx' hxp
          cases o' with
          | dead n e =>
            have h2 : n ≤ pl'.sz ∧ n ≤ 4611686018427387904 ∧ szOf P e = some pl'.e ∧ 0 < pl'.e := by
              cases hO : w.heap[pl'.B]? with
              | none => rw [hO] at h1; exact h1
              | some O => rw [hO] at h1; cases O <;> exact h1
            cases w'.heap[pl'.B]? with
            | none => exact h2
            | some O => cases O <;> exact h2
          | cells => exact absurd trivial hd
          | map => exact absurd trivial hd
          | miter => exact absurd trivial hd
          | siter => exact absurd trivial hd
          | loop => exact absurd trivial hd
          | ro => exact absurd trivial hd
        · rw [hoth _ hB]; exact hr.obj x o' pl' hx' hxp
    · intro x pl' hxp; have := hr.dom x pl' hxp; exact ⟨this.1, by rw [hsz]; exact this.2⟩
    · intro x o' hsx hx
      show x < h.nx
      rw [T.get_upd _ _ hsb hsx] at hx
      split at hx
      · rename_i he; subst he; exact hbn
      · exact hr.keys x o' hsx hx
    · intro x x' o1 o2 pl1 pl2 g1 g2 l1 l2 p1 p2 e
      have n1 := (hr.dom x pl1 p1).1
      have n2 := (hr.dom x' pl2 p2).1
      have key : ∀ y oy py, y < h.nx → (h.bl.upd b o).get y = some oy → oy.live → φ y = some py → ∃ o', h.bl.get y = some o' ∧ o'.live := by
        intro y oy py hy gy ly _
        by_cases hyb : y = b
        · subst hyb; exact ⟨q, hq1, hq2⟩
        · exact ⟨oy, (get_ne y hy hyb) ▸ gy, ly⟩
      obtain ⟨q1, a1, b1⟩ := key x o1 pl1 n1 g1 l1 p1
      obtain ⟨q2, a2, b2⟩ := key x' o2 pl2 n2 g2 l2 p2
      exact hr.inj x x' q1 q2 pl1 pl2 a1 a2 b1 b2 p1 p2 e
  · refine ⟨Sub.refl φ, fun b pl a b' => (by rw [a] at b'; cases b'), Nat.le_refl _, by rw [hsz]; exact Nat.le_refl _, ?_, ?_, ht, hos, hout, ?_, rfl, fun x hx => get_ne x (Nat.lt_of_lt_of_le hx hr.lo) (by omega)⟩
    · intro B _ hn; exact hoth B fun e => hn b pl hp e.symm
    · intro x hx hn
      exact get_ne x hx fun e => by subst e; rw [hp] at hn; cases hn
    · intro B hB
      by_cases he : B = pl.B
      · subst he
        rcases hu with hu | hu
        · exact UF_of_OR ho hu
        · exact hu hB
      · rw [hoth B he]; exact hB

/-- cells stored into a block -/
theorem HR.storeAt (hr : HR P φ h w) {b n e off : Nat} (hlo : h.lo ≤ b) {c : T Value} {op : Bool} {pl : Pl} (hb : h.bl.get b = some (.cells n c e op)) (hp : φ b = some pl) {vs vs' : List Value} (hv : F2 (VR φ) vs vs')
    (h1 : ∀ v ∈ vs, oneC v = true) (h2 : vs ≠ [] → off + vs.length ≤ n) :
    ∃ w', (storeCells ⟨pl.B, off, none⟩ vs').run P w = .ok () w' ∧ HR P φ ⟨h.nx, h.bl.upd b (.cells n (lay vs c off) e op), h.lo⟩ w' ∧ Ext φ φ h ⟨h.nx, h.bl.upd b (.cells n (lay vs c off) e op), h.lo⟩ w w' := by
  obtain ⟨C, hC, hn1, hn2, hop, hcell⟩ := hr.rowAt hb hp
  have hlen := hv.length
  have hone : ∀ v' ∈ vs', v'.oneCell' = true := by
    intro v' hv'
    obtain ⟨i, hi⟩ := List.getElem?_of_mem hv'
    have hi' : i < vs'.length := (List.getElem?_eq_some_iff.1 hi).1
    have : ∃ v, vs[i]? = some v := ⟨vs[i]'(by omega), List.getElem?_eq_getElem (by omega)⟩
    obtain ⟨v, hvi⟩ := this
    obtain ⟨u, hu1, hu2⟩ := hv.get i v hvi
    rw [hi] at hu1; cases hu1
    exact oneC_VR (h1 v (List.mem_of_getElem? hvi)) hu2
  cases hvs : vs with
  | nil =>
    subst hvs
    cases hv
    refine ⟨w, by simp [storeCells], ?_⟩
    have := hr.turn hlo (o := .cells n (lay [] c off) e op) hp ⟨_, hb, trivial⟩ (w' := w) rfl (fun _ _ => rfl) (by rw [hC]; exact ⟨rfl, rfl, hn1, hn2, hop, hcell⟩) rfl rfl rfl (.inl trivial)
    exact this
  | cons v0 vs0 =>
    have hne : vs ≠ [] := by rw [hvs]; simp
    have hle := h2 hne
    rw [← hvs]
    have hrun := run_storeCells_at P pl.B off e vs' 0 C w hC (by simp; omega) hone
    simp only [Nat.add_zero] at hrun
    refine ⟨_, hrun, ?_⟩
    refine hr.turn hlo hp ⟨_, hb, trivial⟩ (setRow_size _ _ _) (fun k hk => setRow_other _ _ _ _ hk) ?_ rfl rfl rfl (.inl trivial)
    rw [setRow_heap w pl.B C _ e _ hC]
    refine ⟨rfl, rfl, by simp; omega, hn2, fun h => ?_, ?_⟩
    · obtain ⟨k1, k2, k3⟩ := hop h
      refine ⟨?_, k2, k3⟩
      simp
      omega
    · intro i v hget hi
      rw [get_lay vs c off (by omega) i (small_of_le (Nat.le_of_lt hi) hn2)] at hget
      split at hget
      · rename_i hin
        obtain ⟨v', g1, g2⟩ := hv.get _ v hget
        refine ⟨v', ?_, g2⟩
        simp only [List.getElem?_toArray, List.append_assoc]
        rw [List.getElem?_append_right (by simp; omega), List.getElem?_append_left (by simp; omega)]
        rw [← g1]; congr 1; simp; omega
      · rename_i hnin
        obtain ⟨v', g1, g2⟩ := hcell i v hget hi
        refine ⟨v', ?_, g2⟩
        simp only [List.getElem?_toArray, List.append_assoc]
        rcases Nat.lt_or_ge i off with hlt | hge
        · rw [List.getElem?_append_left (by simp; omega), List.getElem?_take_of_lt hlt]; simpa using g1
        · rw [List.getElem?_append_right (by simp; omega), List.getElem?_append_right (by simp; omega), List.getElem?_drop]
          have : off + vs'.length + (i - (List.take off C.toList).length - vs'.length) = i := by simp; omega
          rw [this]; simpa using g1

end Go.Vai
