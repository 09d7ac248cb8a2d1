/-
  PROVED HERE: a part of the proof, by a calculus of weakest conditions over an abstract heap (IX, VaiI).
-/
import Derived.Test.YtlmkplcfmngigaaV2
set_option linter.unusedVariables false
set_option linter.unusedSimpArgs false
namespace Go.Vai
open Go
variable {P : Program} {w : World}

theorem cell_row {B : Nat} {C : Array Value} {e : TypeId} (hC : w.heap[B]? = some (.cells C e (0, 0))) (o j : Nat) : w.cell? ((⟨B, o, none⟩ : Addr).add j) = C[o + j]? := by
  rw [addr_add]
  simp [World.cell?, hC]

/-- the first elements of a slice over a row -/
theorem run_first_row {B o k m n c : Nat} {C : Array Value} {e : TypeId} (hC : w.heap[B]? = some (.cells C e (0, 0))) (hle : o + m * k ≤ C.size) :
    (Builtin.firstCells k m (.slice (some ⟨B, o, none⟩) n c)).run P w = .ok ((C.toList.drop o).take (m * k)).toArray w := by
  have hlen : ((C.toList.drop o).take (m * k)).length = m * k := by simp; omega
  have := run_loadCells_list (P := P) w ⟨B, o, none⟩ ((C.toList.drop o).take (m * k)) fun j v hj => by
    rw [cell_row hC]
    rw [List.getElem?_take] at hj
    split at hj
    · simpa [List.getElem?_drop] using hj
    · cases hj
  rw [hlen] at this
  exact this

/-- a copy into a row -/
theorem run_copy_row_at {tS e k ty D o dl dc n c : Nat} {a : Option Addr} {l' : List Value} {R : Array Value} (hu : P.underlying tS = some (.slice e)) (hs : szOf P e = some k)
    (hf : (Builtin.firstCells k (Nat.min n dl) (.slice a n c)).run P w = .ok l'.toArray w) (hR : w.heap[D]? = some (.cells R e (0, 0))) (hfit : o + l'.length ≤ R.size) (hone : ∀ v ∈ l', v.oneCell' = true) :
    (Builtin.copy_ #[tS, tS] ty #[.slice (some ⟨D, o, none⟩) dl dc, .slice a n c]).run P w = .ok (goInt (Nat.min n dl)) (w.setRow D (R.toList.take o ++ l' ++ R.toList.drop (o + l'.length)).toArray) := by
  have h1 := run_storeCells_at P D o e l' 0 R w hR (by simpa using hfit) hone
  simp only [Nat.add_zero] at h1
  simp [Builtin.copy_, run_und hu, run_size hs, Builtin.lenOf, hf, h1, goInt]

/-- what stood behind moved on, and the new laid in -/
theorem shift_take (L : List Value) (a b N : Nat) (h1 : a ≤ N) (h2 : N + b ≤ L.length) : (L.take (a + b) ++ (L.drop a).take (N - a) ++ L.drop (N + b)).take a = (L.take N).take a := by
  rw [List.append_assoc, List.take_append_of_le_length (by simp; omega), List.take_take, List.take_take]
  congr 1; omega
theorem shift_drop (L : List Value) (a b N : Nat) (h1 : a ≤ N) (h2 : N + b ≤ L.length) : (L.take (a + b) ++ (L.drop a).take (N - a) ++ L.drop (N + b)).drop (a + b) = (L.take N).drop a ++ L.drop (N + b) := by
  rw [List.append_assoc, List.drop_left' (by simp; omega), List.drop_take]
end Go.Vai

namespace Go.Vai
open Go
variable {β : Type} {fl : β} {good : β → Prop} {P : Program} {φ : Emb} {h : Heap} {w : World}

/-- of a slice whose capacity is known: there is no room -/
noncomputable def insertX (fl : β) (e size : Nat) (base : Option Addr) (n cap i vb vo m vc : Nat) (h : Heap) (κ : Value → Heap → β) : β :=
  match Nat.ble (i + 1) n, Nat.ble cap 1000000000 && Nat.ble (cap + 1) (n + (m + 1)), base with
  | true, true, some ⟨b, 0, none⟩ => match Nat.beq vb b, h.bl.get b, h.bl.get vb with
    | false, some (.cells _ _ e' _), some (.cells ..) => match Nat.beq e' e, Nat.ble (n + (m + 1)) 1000000 with
      | true, true => firstB fl h size n (.slice (some ⟨b, 0, none⟩) n cap) fun old => firstB fl h size (m + 1) (.slice (some ⟨vb, vo, none⟩) (m + 1) vc) fun new =>
          match old.all oneC && new.all oneC with
          | true => newCells fl (old.take (i * size) ++ new ++ old.drop (i * size)) e true h fun nb h => κ (.slice (some ⟨nb, 0, none⟩) (n + (m + 1)) openCap) h
          | false => fl
      | _, _ => fl
    | _, _, _ => fl
  | _, _, _ => fl

/-- slices.Insert at elements of 'size' cells: at the end it is an append; else the new cells lie in a block of their own, and the old block is dead -/
noncomputable def insertB (fl : β) (e size : Nat) (z : List Value) (args : List Value) (h : Heap) (κ : Value → Heap → β) : β :=
  match args with
  | [.slice base n cap, .int .i64 (.ofNat i), .slice (some ⟨vb, vo, none⟩) (m + 1) vc] =>
    match Nat.beq i n with
    | true => appendB fl e size z false (.slice base n cap) (.slice (some ⟨vb, vo, none⟩) (m + 1) vc) h κ
    | false => match Nat.beq cap openCap with
      | false => insertX fl e size base n cap i vb vo m vc h κ
      | true => match Nat.ble (i + 1) n, Nat.beq cap openCap, base with
        | true, true, some ⟨b, 0, none⟩ => match Nat.beq vb b, h.bl.get b, h.bl.get vb with
          | false, some (.cells nn _ e' true), some (.cells ..) => match Nat.beq e' e, Nat.ble (n + (m + 1)) 1000000 with
            | true, true => firstB fl h size n (.slice base n cap) fun old => firstB fl h size (m + 1) (.slice (some ⟨vb, vo, none⟩) (m + 1) vc) fun new =>
                match old.all oneC && new.all oneC with
                | true => setBlock fl b (.dead nn e) h fun h => newCells fl (old.take (i * size) ++ new ++ old.drop (i * size)) e true h fun nb h => κ (.slice (some ⟨nb, 0, none⟩) (n + (m + 1)) openCap) h
                | false => fl
            | _, _ => fl
          | _, _, _ => fl
        | _, _, _ => fl
  | _ => fl

/-- what a function that is slices.Insert does: its element has k cells -/
structure InsertFn (P : Program) (f : FuncId) (tS e k : Nat) : Prop where
  enters : ∀ (args : Array Value) (w : World), (callFunc f args).run P w = .ok (.enter f args) w
  atEnd : ∀ (base : Option Addr) (n c VB vo m vc : Nat) (w : World) (r : Value) (w' : World), 0 < m → n ≤ c →
    (Builtin.append_ #[tS, tS] tS #[.slice base n c, .slice (some ⟨VB, vo, none⟩) m vc]).run P w = .ok r w' →
    Calls P f #[.slice base n c, .int .i64 n, .slice (some ⟨VB, vo, none⟩) m vc] w fun e w'' => e = .returned r ∧ w'' = w'
  shift : ∀ (B n c i VB vo m vc : Nat) (C VC : Array Value) (e2 : TypeId) (new : List Value) (w : World), B ≠ VB → i < n → 0 < m → n + m ≤ c → n + m ≤ 1000000 →
    w.heap[B]? = some (.cells C e (0, 0)) → w.heap[VB]? = some (.cells VC e2 (0, 0)) → c * k ≤ C.size → (∀ w1 : World, w1.heap[VB]? = w.heap[VB]? → (Builtin.firstCells k m (.slice (some ⟨VB, vo, none⟩) m vc)).run P w1 = .ok new.toArray w1) →
    new.length = m * k → (∀ v ∈ new, v.oneCell' = true) → (∀ v ∈ C.toList.take (n * k), v.oneCell' = true) →
    Calls P f #[.slice (some ⟨B, 0, none⟩) n c, .int .i64 i, .slice (some ⟨VB, vo, none⟩) m vc] w fun e w'' => e = .returned (.slice (some ⟨B, 0, none⟩) (n + m) c) ∧
      ∃ d, w'' = { w.setRow B (((C.toList.take (n * k)).take (i * k) ++ new ++ (C.toList.take (n * k)).drop (i * k)) ++ C.toList.drop ((n + m) * k)).toArray with drawn := d }
  grow : ∀ (B n c i VB vo m vc : Nat) (C VC : Array Value) (e2 : TypeId) (new : List Value) (w : World), B ≠ VB → i < n → 0 < m → n ≤ c → c < n + m → n + m ≤ 1000000 →
    w.heap[B]? = some (.cells C e (0, 0)) → w.heap[VB]? = some (.cells VC e2 (0, 0)) → n * k ≤ C.size → (∀ w1 : World, w1.heap[VB]? = w.heap[VB]? → (Builtin.firstCells k m (.slice (some ⟨VB, vo, none⟩) m vc)).run P w1 = .ok new.toArray w1) →
    new.length = m * k → (∀ v ∈ new, v.oneCell' = true) → (∀ v ∈ C.toList.take (n * k), v.oneCell' = true) →
    Calls P f #[.slice (some ⟨B, 0, none⟩) n c, .int .i64 i, .slice (some ⟨VB, vo, none⟩) m vc] w fun e' w'' => ∃ newCap rest d, n + m ≤ newCap ∧ rest.length = (newCap - (n + m)) * k ∧
      e' = .returned (.slice (some ⟨w.heap.size, 0, none⟩) (n + m) newCap) ∧
      w'' = { w.alloc (.cells (((C.toList.take (n * k)).take (i * k) ++ new ++ (C.toList.take (n * k)).drop (i * k)) ++ rest).toArray e (0, 0)) with drawn := d }

set_option maxHeartbeats 2000000 in
set_option maxRecDepth 100000 in
theorem insertX_sound (hfl : ¬ good fl) {f tS e size : Nat} {z : List Value} (hI : InsertFn P f tS e size) (hz : zOf P e = some (z, size))
    (hr : HR P φ h w) {base base' : Option Addr} {n cap cap' i vb vo m vc vc' : Nat} {plv : Pl} (hs : VR φ (.slice base n cap) (.slice base' n cap')) (hpv : φ vb = some plv) (hv : VR φ (.slice (some ⟨vb, vo, none⟩) (m + 1) vc) (.slice (some ⟨plv.B, vo, none⟩) (m + 1) vc'))
    {κ : Value → Heap → β} (hg : good (insertX fl e size base n cap i vb vo m vc h κ)) : CallTo good P φ h w κ f #[.slice base' n cap', .int .i64 (.ofNat i), .slice (some ⟨plv.B, vo, none⟩) (m + 1) vc'] := by
  obtain ⟨hz1, hz2, hz3, hz4⟩ := zOf_sound hz
  unfold insertX at hg
  split at hg <;> try exact absurd hg hfl
  rename_i b hlt hcc
  simp only [Bool.and_eq_true] at hcc
  have hlt : i < n := ble_t hlt
  have hc1 : cap ≤ 1000000000 := ble_t hcc.1
  have hc2 : cap < n + (m + 1) := ble_t hcc.2
  obtain ⟨pl, hp, rfl, rfl, hle⟩ : ∃ pl, φ b = some pl ∧ cap' = cap ∧ base' = some ⟨pl.B, 0, none⟩ ∧ n ≤ cap := by
    cases hs with
    | slice hp hn hc => exact ⟨_, hp, rfl, rfl, hn⟩
    | sliceOpen hp hn hc => exact absurd hc1 (by decide)
    | sliceAny => exact absurd hc1 (by decide)
  split at hg <;> try exact absurd hg hfl
  rename_i nn cc e' op nv cv ev opv hne hb hvb
  have hne := beq_f hne
  split at hg <;> try exact absurd hg hfl
  rename_i hee hsm
  have hee := beq_t hee; subst hee
  have hsm : n + (m + 1) ≤ 1000000 := ble_t hsm
  obtain ⟨C, hC, hn1, hn2, hopn, hcell⟩ := hr.rowAt hb hp
  obtain ⟨VC, hVC, hv1, _, _, _⟩ := hr.rowAt hvb hpv
  have hBne : pl.B ≠ plv.B := fun hB => hne (hr.inj b vb _ _ pl plv hb hvb trivial trivial hp hpv hB).symm
  obtain ⟨old, k1, k3, k5, k6⟩ := firstB_cells hfl hb hg
  obtain ⟨new, new', n1, n2, n3, n4⟩ := firstB_sound hfl hr k1 hv ⟨_, _, _, rfl, Nat.le_refl _⟩
  split at n1 <;> try exact absurd n1 hfl
  rename_i hones
  simp only [Bool.and_eq_true] at hones
  unfold newCells at n1
  obtain ⟨m1, m2⟩ := cellsK_good hfl n1
  obtain ⟨m3, m4⟩ := newBlock_good hfl m2
  have hnn : n * size ≤ nn := by
    have := k5 (by intro hnil; rw [hnil] at k3; simp at k3; rcases k3.symm with h0; have : 0 < n * size := Nat.mul_pos (by omega) hz4; omega)
    omega
  have hns : n * size ≤ C.size := Nat.le_trans hnn hn1
  have hold : F2 (VR φ) old (C.toList.take (n * size)) := by
    refine F2.of_get (by simp; omega) fun j v v' e1 e2 => ?_
    have hj : j < n * size := by rw [← k3]; exact (List.getElem?_eq_some_iff.mp e1).1
    have h1 := k6 j v e1
    rw [Nat.zero_add] at h1
    obtain ⟨v2, h2, h3⟩ := hcell j v h1 (by omega)
    rw [List.getElem?_take_of_lt hj] at e2
    rw [Array.getElem?_toList, h2] at e2
    cases e2; exact h3
  have hmid : F2 (VR φ) (old.take (i * size) ++ new ++ old.drop (i * size)) ((C.toList.take (n * size)).take (i * size) ++ new' ++ (C.toList.take (n * size)).drop (i * size)) :=
    ((hold.take _).append n2).append (hold.drop _)
  have h1v := ones_VR n2 hones.2
  have h1c := ones_VR hold hones.1
  have hnl : new'.length = (m + 1) * size := by rw [← n2.length, n3]
  have hmlen : ((C.toList.take (n * size)).take (i * size) ++ new' ++ (C.toList.take (n * size)).drop (i * size)).length = (n + (m + 1)) * size := by
    have hin : i * size ≤ n * size := Nat.mul_le_mul_right _ (by omega)
    rw [Nat.add_mul]
    simp [hnl]
    omega
  obtain ⟨l2, _, v4, v5, _⟩ := firstB_cells hfl hvb k1
  have hvs : vo + (m + 1) * size ≤ VC.size := by
    have hpos : 0 < (m + 1) * size := Nat.mul_pos (by omega) hz4
    have := v5 (by intro hnil; rw [hnil] at v4; simp only [List.length_nil] at v4; omega)
    rw [v4] at this
    exact Nat.le_trans this hv1
  have hf : ∀ w1 : World, w1.heap[plv.B]? = w.heap[plv.B]? → (Builtin.firstCells size (m + 1) (.slice (some ⟨plv.B, vo, none⟩) (m + 1) vc')).run P w1 = .ok new'.toArray w1 := by
    intro w1 hw1
    have h1 := n4 w rfl
    rw [run_first_row hVC hvs] at h1
    have h2 := run_first_row (P := P) (w := w1) (n := m + 1) (c := vc') (by rw [hw1]; exact hVC) hvs
    have h3 := (Result.ok.inj h1).1
    rw [h2, h3]
  refine ⟨hI.enters _ _, Calls.mono (hI.grow pl.B n cap' i plv.B vo (m + 1) vc' C VC ev new' w hBne hlt (by omega) hle hc2 hsm hC hVC hns hf hnl h1v h1c) ?_⟩
  rintro e2 w'' ⟨newCap, rest, d, j1, j2, rfl, rfl⟩
  have hOR := OR_new (P := P) hmid m1 e' ⟨w.heap.size, newCap * size, size⟩ rest true (fun _ => ⟨by
    rw [List.length_append, hmlen, j2, ← Nat.add_mul]; exact congrArg (fun x => x * size) (Nat.add_sub_cancel' j1), hz2, hz4⟩)
  obtain ⟨q1, q3⟩ := hr.fresh m3 (newCap * size) size hOR trivial
  exact ⟨_, _, _, _, rfl, m4, .sliceOpen (addPl_same _ _ _) j1 (by simp), ⟨q1.obj, q1.dom, q1.keys, q1.nxs, q1.inj, q1.lo⟩, ⟨q3.sub, q3.new, q3.nx, q3.size, q3.frC, q3.frA, q3.tape, q3.os, q3.output, q3.fz, q3.lo, q3.frL, q3.frW⟩⟩

set_option maxHeartbeats 2000000 in
set_option maxRecDepth 100000 in
theorem insertB_sound (hfl : ¬ good fl) {f tS e size : Nat} {z : List Value} {inf : TypeInfo} (hI : InsertFn P f tS e size) (hu : P.underlying tS = some (.slice e)) (hz : zOf P e = some (z, size)) (hi : P.info? e = some inf) (hby : inf.bytes ≤ 10000)
    (hr : HR P φ h w) {args args' : List Value} (ha : F2 (VR φ) args args') {κ : Value → Heap → β} (hg : good (insertB fl e size z args h κ)) : CallTo good P φ h w κ f args'.toArray := by
  obtain ⟨hz1, hz2, hz3, hz4⟩ := zOf_sound hz
  unfold insertB at hg
  split at hg <;> try exact absurd hg hfl
  rename_i base n cap i vb vo m vc
  cases ha with
  | cons hs ha =>
  cases ha with
  | cons hi' ha =>
  cases ha with
  | cons hv ha =>
  cases ha
  cases hi'
  rename_i s' v'
  obtain ⟨base', cap', hs'⟩ : ∃ base' cap', s' = .slice base' n cap' := by cases hs <;> exact ⟨_, _, rfl⟩
  have hle : n ≤ cap' := by subst hs'; cases hs <;> first | assumption | omega
  obtain ⟨plv, vc', hpv, hv'⟩ : ∃ plv vc', φ vb = some plv ∧ v' = .slice (some ⟨plv.B, vo, none⟩) (m + 1) vc' := by
    cases hv with
    | slice hp _ _ => exact ⟨_, _, hp, rfl⟩
    | sliceOpen hp _ _ => exact ⟨_, _, hp, rfl⟩
  split at hg
  · rename_i hin; have hin := beq_t hin
    subst hin
    obtain ⟨φ', v, r, h', w', g1, g2, g3, g4, g5⟩ := appendB_sound (ts := #[tS, tS]) (ty := tS) (xd := .slice e) hfl rfl hu hz hi hby rfl hu hr hg hs hv
    subst hs'; subst hv'
    refine ⟨hI.enters _ _, Calls.mono (hI.atEnd base' i cap' plv.B vo (m + 1) vc' w r w' (by omega) hle g5) ?_⟩
    rintro e' w'' ⟨rfl, rfl⟩
    exact ⟨φ', v, r, h', rfl, g1, g2, g3, g4⟩
  · split at hg
    · subst hs'; subst hv'
      exact insertX_sound hfl hI hz hr hs hpv hv hg
    split at hg <;> try exact absurd hg hfl
    rename_i b hlt hop
    have hlt : i < n := ble_t hlt
    have hop := beq_t hop
    subst hop
    split at hg <;> try exact absurd hg hfl
    rename_i nn cc e' nv cv ev opv hne hb hvb
    have hne := beq_f hne
    split at hg <;> try exact absurd hg hfl
    rename_i hee hsm
    have hee := beq_t hee; subst hee
    have hsm : n + (m + 1) ≤ 1000000 := ble_t hsm
    obtain ⟨pl, hp, hcap, rfl⟩ : ∃ pl, φ b = some pl ∧ cap' * pl.e + 0 = pl.sz ∧ base' = some ⟨pl.B, 0, none⟩ := by
      subst hs'
      cases hs with
      | slice hp hn hc => exact absurd hc (Nat.lt_irrefl _)
      | sliceOpen hp hn hc => exact ⟨_, hp, hc, rfl⟩
    obtain ⟨C, hC, hn1, hn2, hopn, hcell⟩ := hr.rowAt hb hp
    obtain ⟨VC, hVC, hv1, _, _, _⟩ := hr.rowAt hvb hpv
    obtain ⟨o1, o2, o3⟩ := hopn rfl
    have hBne : pl.B ≠ plv.B := fun hB => hne (hr.inj b vb _ _ pl plv hb hvb trivial trivial hp hpv hB).symm
    have hpe : pl.e = size := by rw [hz2] at o2; exact (Option.some.inj o2).symm
    rw [hpe] at hcap
    obtain ⟨old, k1, k3, k5, k6⟩ := firstB_cells hfl hb hg
    obtain ⟨new, new', n1, n2, n3, n4⟩ := firstB_sound hfl hr k1 hv ⟨_, _, _, rfl, Nat.le_refl _⟩
    split at n1 <;> try exact absurd n1 hfl
    rename_i hones
    simp only [Bool.and_eq_true] at hones
    obtain ⟨hlo, n1⟩ := setBlock_good hfl n1
    unfold newCells at n1
    obtain ⟨m1, m2⟩ := cellsK_good hfl n1
    obtain ⟨m3, m4⟩ := newBlock_good hfl m2
    have hcs : cap' * size ≤ C.size := by omega
    have hns : n * size ≤ C.size := Nat.le_trans (Nat.mul_le_mul_right _ hle) hcs
    have hnn : n * size ≤ nn := by
      have := k5 (by intro hnil; rw [hnil] at k3; simp at k3; rcases k3.symm with h0; have : 0 < n * size := Nat.mul_pos (by omega) hz4; omega)
      omega
    have hold : F2 (VR φ) old (C.toList.take (n * size)) := by
      refine F2.of_get (by simp; omega) fun j v v' e1 e2 => ?_
      have hj : j < n * size := by rw [← k3]; exact (List.getElem?_eq_some_iff.mp e1).1
      have h1 := k6 j v e1
      rw [Nat.zero_add] at h1
      obtain ⟨v2, h2, h3⟩ := hcell j v h1 (by omega)
      rw [List.getElem?_take_of_lt hj] at e2
      rw [Array.getElem?_toList, h2] at e2
      cases e2; exact h3
    have hmid : F2 (VR φ) (old.take (i * size) ++ new ++ old.drop (i * size)) ((C.toList.take (n * size)).take (i * size) ++ new' ++ (C.toList.take (n * size)).drop (i * size)) :=
      ((hold.take _).append n2).append (hold.drop _)
    have h1v := ones_VR n2 hones.2
    have h1c := ones_VR hold hones.1
    have hnl : new'.length = (m + 1) * size := by rw [← n2.length, n3]
    have hmlen : ((C.toList.take (n * size)).take (i * size) ++ new' ++ (C.toList.take (n * size)).drop (i * size)).length = (n + (m + 1)) * size := by
      have hin : i * size ≤ n * size := Nat.mul_le_mul_right _ (by omega)
      rw [Nat.add_mul]
      simp [hnl]
      omega
    subst hs'; subst hv'
    obtain ⟨l2, _, v4, v5, _⟩ := firstB_cells hfl hvb k1
    have hvs : vo + (m + 1) * size ≤ VC.size := by
      have hpos : 0 < (m + 1) * size := Nat.mul_pos (by omega) hz4
      have := v5 (by intro hnil; rw [hnil] at v4; simp only [List.length_nil] at v4; omega)
      rw [v4] at this
      exact Nat.le_trans this hv1
    have hf : ∀ w1 : World, w1.heap[plv.B]? = w.heap[plv.B]? → (Builtin.firstCells size (m + 1) (.slice (some ⟨plv.B, vo, none⟩) (m + 1) vc')).run P w1 = .ok new'.toArray w1 := by
      intro w1 hw1
      have h1 := n4 w rfl
      rw [run_first_row hVC hvs] at h1
      have h2 := run_first_row (P := P) (w := w1) (n := m + 1) (c := vc') (by rw [hw1]; exact hVC) hvs
      have h3 := (Result.ok.inj h1).1
      rw [h2, h3]
    by_cases hroom : n + (m + 1) ≤ cap'
    · refine ⟨hI.enters _ _, Calls.mono (hI.shift pl.B n cap' i plv.B vo (m + 1) vc' C VC ev new' w hBne hlt (by omega) hroom hsm hC hVC hcs hf hnl h1v h1c) ?_⟩
      rintro e2 w'' ⟨rfl, d, rfl⟩
      have hrow := setRow_heap w pl.B C ((((C.toList.take (n * size)).take (i * size) ++ new' ++ (C.toList.take (n * size)).drop (i * size)) ++ C.toList.drop ((n + (m + 1)) * size)).toArray) e' _ hC
      have hOR := OR_new (P := P) hmid m1 e' pl (C.toList.drop ((n + (m + 1)) * size)) true (fun _ => ⟨by
        have : (n + (m + 1)) * size ≤ C.size := Nat.le_trans (Nat.mul_le_mul_right _ hroom) hcs
        rw [List.length_append, hmlen]; simp; omega, o2, o3⟩)
      obtain ⟨q1, q2⟩ := hr.regrow hlo (ob := .cells (old.take (i * size) ++ new ++ old.drop (i * size)).length (lay (old.take (i * size) ++ new ++ old.drop (i * size)) .nil 0) e' true) (w' := { w.setRow pl.B ((((C.toList.take (n * size)).take (i * size) ++ new' ++ (C.toList.take (n * size)).drop (i * size)) ++ C.toList.drop ((n + (m + 1)) * size)).toArray) with drawn := d }) hb hp m3
        (setRow_size _ _ _) (fun k hk => setRow_other _ _ _ _ hk) (by show OR P φ _ pl ((w.setRow pl.B _).heap[pl.B]?); rw [hrow]; exact hOR) (by show OR P φ _ pl ((w.setRow pl.B _).heap[pl.B]?); rw [hrow]; exact ⟨by omega, hn2, o2, o3⟩) rfl rfl rfl trivial
      exact ⟨_, _, _, _, rfl, m4, .sliceOpen (addPl_same _ _ _) hroom (by rw [hpe]; exact hcap), q1, q2⟩
    · refine ⟨hI.enters _ _, Calls.mono (hI.grow pl.B n cap' i plv.B vo (m + 1) vc' C VC ev new' w hBne hlt (by omega) hle (by omega) hsm hC hVC hns hf hnl h1v h1c) ?_⟩
      rintro e2 w'' ⟨newCap, rest, d, j1, j2, rfl, rfl⟩
      have hdead := hr.turn hlo (w' := w) (o := .dead nn e') hp ⟨_, hb, trivial⟩ rfl (fun _ _ => rfl) (by rw [hC]; exact ⟨by omega, hn2, o2, o3⟩) rfl rfl rfl (.inr id)
      have hOR := OR_new (P := P) hmid m1 e' ⟨w.heap.size, newCap * size, size⟩ rest true (fun _ => ⟨by
        rw [List.length_append, hmlen, j2, ← Nat.add_mul]; exact congrArg (fun x => x * size) (Nat.add_sub_cancel' j1), hz2, hz4⟩)
      obtain ⟨q1, q2⟩ := hdead.1.fresh m3 (newCap * size) size hOR trivial
      have q3 := hdead.2.trans q2
      exact ⟨_, _, _, _, rfl, m4, .sliceOpen (addPl_same _ _ _) j1 (by simp), ⟨q1.obj, q1.dom, q1.keys, q1.nxs, q1.inj, q1.lo⟩, ⟨q3.sub, q3.new, q3.nx, q3.size, q3.frC, q3.frA, q3.tape, q3.os, q3.output, q3.fz, q3.lo, q3.frL, q3.frW⟩⟩

end Go.Vai
