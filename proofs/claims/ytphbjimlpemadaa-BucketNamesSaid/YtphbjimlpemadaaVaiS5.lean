/-
  PROVED HERE: a part of an interpreter for the model's code, and that it is sound.
  The interpreter is sound, part 5: all that reads, together.
-/
import Derived.Test.YtphbjimlpemadaaVaiS4
import Derived.Laws.Small
set_option linter.unusedVariables false
set_option linter.unusedSimpArgs false
namespace Go.Vai
open Go
variable {β : Type} {fl : β} {good : β → Prop} {P : Program} {φ : Emb} {h : Heap} {w : World} {t : TypeId}

theorem binB_sound (hfl : ¬ good fl) (hr : HR P φ h w) {op : BinOp} {t : TypeId} {x y : Operand} {a b a' b' : Value} {κ : Value → Heap → β}
    (hg : good (binB fl P op t ((x matches .const _) || (y matches .const _)) (P.eqGuardType P.depth t) a b h κ)) (ha : VR φ a a') (hb : VR φ b b') :
    ∃ v v', good (κ v h) ∧ VR φ v v' ∧ ((do eqGuard op t x y a' b'; binOp op t a' b') : Sem Value).run P w = .ok v' w := by
  unfold binB at hg
  split at hg
  · rename_i k n k' m
    cases ha; cases hb
    have fin : ∀ op', good (intB fl op' k n m fun v => κ v h) → (k' = k ∨ op' = .shl ∨ op' = .shr) → op' = op →
        ∃ v v', good (κ v h) ∧ VR φ v v' ∧ ((do eqGuard op t x y (.int k n) (.int k' m); binOp op t (.int k n) (.int k' m)) : Sem Value).run P w = .ok v' w := by
      intro op' hg1 hk e
      subst e
      obtain ⟨v, g1, g2, g3⟩ := intB_sound (P := P) (w := w) (φ := φ) hfl hg1 hk t
      refine ⟨v, v, g1, g2, ?_⟩
      rw [eqGuard_at_int]
      simpa using g3
    split at hg
    · rename_i hk; rw [kindEq_eq] at hk
      exact fin _ hg (.inl (by simpa [eq_comm] using hk)) rfl
    · exact fin _ hg (.inr (.inl rfl)) rfl
    · exact fin _ hg (.inr (.inr rfl)) rfl
    · exact absurd hg hfl
  · rename_i s s'
    cases ha; cases hb
    split at hg
    · split at hg <;> try exact absurd hg hfl
      rename_i hle; have hle := ble_t hle
      refine ⟨_, _, hg, .string _, ?_⟩
      have h1 : ¬ ((s.size + s'.size : Nat) : Int) > IntKind.i64.max := by
        rw [IntKind.max_i64]; have : s.size + s'.size ≤ 9223372036854775807 := hle; omega
      have h2 : ¬ (9223372036854775807 : Int) < (s.size : Int) + (s'.size : Int) := by have : s.size + s'.size ≤ 9223372036854775807 := hle; omega
      simp [eqGuard, binOp, Op.stringOp, h2]
    · simp only [fbK_eq, bytesEqB_eq] at hg
      refine ⟨_, _, hg, .bool _, ?_⟩
      rw [← bbeq, beq_toListBytes]
      simp [eqGuard, binOp, Op.stringOp]
    · simp only [fbK_eq, bytesEqB_eq] at hg
      refine ⟨_, _, hg, .bool _, ?_⟩
      rw [← bbeq, beq_toListBytes]
      simp [eqGuard, binOp, Op.stringOp]
    · exact absurd hg hfl
  · cases ha; cases hb
    have hq : ∀ r, eqB P h 100 t .nilIface .nilIface = some r → (Op.equal t .nilIface .nilIface).run P w = .ok r w :=
      fun r he => eqB_sound hr 100 10000 (by omega) t _ _ _ _ r he .nilIface .nilIface
    split at hg <;> try exact absurd hg hfl
    · rename_i hcn
      split at hg <;> try exact absurd hg hfl
      rename_i r he
      simp only [fbK_eq] at hg
      refine ⟨_, _, hg, .bool _, ?_⟩
      cases x <;> cases y <;> simp at hcn <;> simp [eqGuard, binOp, hq r he]
    · rename_i hcn
      split at hg <;> try exact absurd hg hfl
      rename_i r he
      simp only [fbK_eq] at hg
      refine ⟨_, _, hg, .bool _, ?_⟩
      cases x <;> cases y <;> simp at hcn <;> simp [eqGuard, binOp, hq r he]
  · exact absurd hg hfl
  · exact absurd hg hfl
  · exact absurd hg hfl
  · exact absurd hg hfl
  · have n1 : ∀ k n k' m, a = .int k n → b = .int k' m → False := by assumption
    have n2 : ∀ s s', a = .string s → b = .string s' → False := by assumption
    have n3 : a = .nilIface → b = .nilIface → False := by assumption
    split at hg <;> try exact absurd hg hfl
    · rename_i hgd
      split at hg <;> try exact absurd hg hfl
      rename_i r he
      simp only [fbK_eq] at hg
      refine ⟨_, _, hg, .bool _, ?_⟩
      have := eqOp_sound (x := x) (y := y) hr (op := .eql) (.inl rfl) hgd ha hb he (fun ⟨k, n, k', m, e1, e2⟩ => n1 k n k' m e1 e2) (fun ⟨s, s', e1, e2⟩ => n2 s s' e1 e2) (fun ⟨e1, e2⟩ => n3 e1 e2)
      simpa using this
    · rename_i hgd
      split at hg <;> try exact absurd hg hfl
      rename_i r he
      simp only [fbK_eq] at hg
      refine ⟨_, _, hg, .bool _, ?_⟩
      have := eqOp_sound (x := x) (y := y) hr (op := .neq) (.inr rfl) hgd ha hb he (fun ⟨k, n, k', m, e1, e2⟩ => n1 k n k' m e1 e2) (fun ⟨s, s', e1, e2⟩ => n2 s s' e1 e2) (fun ⟨e1, e2⟩ => n3 e1 e2)
      simpa using this

/-- what an operation's own meaning is, as a value -/
theorem run_valued {s : Sem Value} {v : Value} {w' : World} (hs : s.run P w = .ok v w') : ((do pure (Next.value (← s)) : Sem Next)).run P w = .ok (.value v) w' := by simp [hs]

theorem placesAll_sound {z : List Value} {place : Nat → Option (Nat × Nat)} (hp : placesAll P t = some (z, place)) {parts : List (Nat × Value)} {r : Array Value} (hf : Instr.fill place z.toArray parts = some r) :
    P.built t parts = some r ∧ z.all basicOk = true := by
  unfold placesAll at hp
  unfold Program.built
  split at hp <;> try (cases hp; done)
  · rename_i it n e hi hu
    split at hp <;> try (cases hp; done)
    rename_i zv ie hz hie
    split at hp <;> try (cases hp; done)
    rename_i hb
    cases hp
    refine ⟨?_, hb⟩
    simp only [hi, hu, hz, hie]
    simpa using hf
  · rename_i it fs hi hu
    split at hp <;> try (cases hp; done)
    rename_i zv places hz hpl
    split at hp <;> try (cases hp; done)
    rename_i hb
    cases hp
    refine ⟨?_, hb⟩
    simp only [hi, hu, hz, hpl]
    simpa using hf

theorem placesAll_basic {z : List Value} {place : Nat → Option (Nat × Nat)} (hp : placesAll P t = some (z, place)) : z.all basicOk = true := by
  unfold placesAll at hp
  split at hp <;> try (cases hp; done)
  · split at hp <;> try (cases hp; done)
    split at hp <;> try (cases hp; done)
    rename_i hb; cases hp; exact hb
  · split at hp <;> try (cases hp; done)
    split at hp <;> try (cases hp; done)
    rename_i hb; cases hp; exact hb

theorem boundOf_sound {lo hi mx : Option Operand} {f g : Operand → Value} (hv : ∀ y ∈ splitO lo hi mx, VR φ (f y) (g y)) {l hh m : Option Value}
    (hb : boundOf lo.isSome hi.isSome mx.isSome ((splitO lo hi mx).map f) = some (l, hh, m)) :
    OVR φ l (lo.map g) ∧ OVR φ hh (hi.map g) ∧ OVR φ m (mx.map g) := by
  cases lo <;> cases hi <;> cases mx <;> simp [splitO, boundOf] at hb hv <;> obtain ⟨rfl, rfl, rfl⟩ := hb <;> simp_all <;> trivial

set_option maxHeartbeats 1000000 in
theorem compR_sound (hfl : ¬ good fl) {op : Op} {i : XI β} (hc : compR fl P op = some i) {tm : T Value} {ρ : Operand → Value} (hρ : ∀ y ∈ op.operands.toList, VR φ (evv tm y) (ρ y)) (hr : HR P φ h w)
    {κ : Value → Heap → β} (hg : good (i.run tm h κ)) {o : Oper} (ho : o.op = op) :
    ∃ v v', good (κ v h) ∧ VR φ v v' ∧ (execOp ρ o).run P w = .ok (.value v') w := by
  have lift : ∀ {s : Sem Value}, (∃ v v', good (κ v h) ∧ VR φ v v' ∧ s.run P w = .ok v' w) → execOp ρ o = (do pure (Next.value (← s))) →
      ∃ v v', good (κ v h) ∧ VR φ v v' ∧ (execOp ρ o).run P w = .ok (.value v') w := by
    intro s ⟨v, v', g1, g2, g3⟩ e
    exact ⟨v, v', g1, g2, by rw [e]; exact run_valued g3⟩
  cases op <;> simp only [compR] at hc <;> try (cases hc; done)
  case move x =>
    cases hc; rw [XI.run_k1] at hg
    exact ⟨_, ρ x, hg, hρ x (by simp [Op.operands]), by simp [execOp, ho]⟩
  case assign x =>
    cases hc; rw [XI.run_k1] at hg
    exact ⟨_, ρ x, hg, hρ x (by simp [Op.operands]), by simp [execOp, ho]⟩
  case pick c a b =>
    cases hc; rw [XI.run_k3] at hg
    obtain ⟨v, v', g1, g2, g3⟩ := pickB_sound (P := P) (w := w) hfl hg (hρ c (by simp [Op.operands])) (hρ a (by simp [Op.operands])) (hρ b (by simp [Op.operands]))
    exact ⟨v, v', g1, g2, by simp only [execOp, ho]; exact g3⟩
  case build t parts =>
    split at hc <;> try (cases hc; done)
    rename_i z place hp
    split at hc <;> try (cases hc; done)
    rename_i ps hps
    cases hc; rw [XI.run_kn] at hg
    have hb := placesAll_basic hp
    rw [List.map_map] at hg
    obtain ⟨r, r', g1, g2, g3⟩ := fillB_sound (φ := φ) hfl tm ρ place parts.toList ps hps (fun p hpm => hρ p.2 (by simp [Op.operands]; exact ⟨p.1, by simpa using hpm⟩)) z z (basicL_VR hb) _ hg
    obtain ⟨g4, _⟩ := placesAll_sound hp g3
    refine ⟨_, .agg r'.toArray, g1, VR.agg' (by simpa using g2), ?_⟩
    have g5 := run_build (P := P) w t (parts.map fun (i, x) => (i, ρ x)) r'.toArray (by simpa using g4)
    simp only [execOp, ho]
    exact run_valued g5
  case load t a =>
    split at hc <;> try (cases hc; done)
    · rename_i hag hsz; cases hc; rw [XI.run_k1] at hg
      exact lift (loadA_sound hfl hag hsz hg (hρ a (by simp [Op.operands])) hr) (by simp only [execOp, ho])
    · rename_i hag hsz; cases hc; rw [XI.run_k1] at hg
      exact lift (load1_sound hfl hag hg (hρ a (by simp [Op.operands])) hr) (by simp only [execOp, ho])
  case nilCheck x =>
    cases hc; rw [XI.run_k1] at hg
    exact nilB_sound hfl hg (hρ x (by simp [Op.operands])) o ρ x ho rfl
  case binOp op t x y yt =>
    cases hc; rw [XI.run_k2] at hg
    exact lift (binB_sound hfl hr hg (hρ x (by simp [Op.operands])) (hρ y (by simp [Op.operands]))) (by simp only [execOp, ho])
  case unOp op t x =>
    cases hc; rw [XI.run_k1] at hg
    exact lift (unB_sound hfl hg (hρ x (by simp [Op.operands]))) (by simp only [execOp, ho])
  case convert src dst x =>
    split at hc <;> try (cases hc; done)
    · rename_i hs hd; cases hc; rw [XI.run_k1] at hg
      exact lift (convI_sound hfl hs hd hg (hρ x (by simp [Op.operands]))) (by simp only [execOp, ho])
    · rename_i hs hd; cases hc; rw [XI.run_k1] at hg
      split at hg <;> try exact absurd hg hfl
      rename_i s hx
      have hv := hρ x (by simp [Op.operands])
      rw [hx] at hv
      generalize hy : ρ x = y at hv
      cases hv
      refine ⟨_, .string s, hg, .string s, ?_⟩
      simp [execOp, ho, convert, run_und hs, run_und hd, hy]
  case makeInterface t x =>
    split at hc <;> try (cases hc; done)
    rename_i d hni hu
    cases hc; rw [XI.run_k1] at hg
    refine ⟨_, .iface t (ρ x), hg, .iface t (hρ x (by simp [Op.operands])), ?_⟩
    have : (Instr.makeInterface t (ρ x)).run P w = .ok (.iface t (ρ x)) w := by
      simp only [Instr.makeInterface, Sem.run_bind, run_und hu, Result.andThen_ok]
      cases d <;> first | exact absurd hu (hni _) | rfl
    simp only [execOp, ho]
    exact run_valued this
  case makeFunc fn first cap =>
    cases fn <;> try (cases hc; done)
    rename_i fn
    cases hc; rw [XI.run_kn] at hg
    have hv : F2 (VR φ) ((first.toList ++ cap.toList).map (evv tm)) ((first.toList ++ cap.toList).map ρ) := F2.map _ fun x hx => hρ x (by simpa [Op.operands] using hx)
    refine ⟨_, .func (.func fn) (first.map ρ) (cap.map ρ), hg, ?_, by simp [execOp, ho, Instr.makeFunc]⟩
    refine VR.func' ?_ ?_
    · have := hv.take first.toList.length
      simpa using this
    · have := hv.drop first.toList.length
      simpa using this
  case slice t x lo hi mx =>
    have hx : VR φ (evv tm x) (ρ x) := hρ x (by simp [Op.operands])
    have hbs : ∀ y ∈ splitO lo hi mx, VR φ (evv tm y) (ρ y) := fun y hy => hρ y (by
      cases lo <;> cases hi <;> cases mx <;> simp [splitO] at hy <;> simp [Op.operands, hy])
    split at hc <;> try (cases hc; done)
    · rename_i e hu
      split at hc <;> try (cases hc; done)
      rename_i s hs
      cases hc; rw [XI.run_kn] at hg
      simp only [List.map_cons] at hg
      split at hg <;> try exact absurd hg hfl
      rename_i l hh m hb
      obtain ⟨k1, k2, k3⟩ := boundOf_sound hbs hb
      exact lift (sliceB_sound hfl hu hs hr hg hx k1 k2 k3) (by simp only [execOp, ho])
    · rename_i hu
      cases hc; rw [XI.run_kn] at hg
      simp only [List.map_cons] at hg
      split at hg <;> try exact absurd hg hfl
      rename_i l hh m hb
      obtain ⟨k1, k2, k3⟩ := boundOf_sound hbs hb
      exact lift (sliceS_sound hfl hu hg hx k1 k2 k3) (by simp only [execOp, ho])
  case fieldAddr t x f =>
    split at hc <;> try (cases hc; done)
    rename_i fs hu
    split at hc <;> try (cases hc; done)
    rename_i fld hf
    split at hc <;> try (cases hc; done)
    rename_i s hs
    cases hc; rw [XI.run_k1] at hg
    exact lift (fieldAddrB_sound hfl hu hf hs hg (hρ x (by simp [Op.operands]))) (by simp only [execOp, ho])
  case field t x f =>
    split at hc <;> try (cases hc; done)
    rename_i fs hu
    split at hc <;> try (cases hc; done)
    rename_i fld hf
    split at hc <;> try (cases hc; done)
    rename_i b s hb hs
    cases hc; rw [XI.run_k1] at hg
    exact lift (fieldB_sound hfl hu hf hb hs hg (hρ x (by simp [Op.operands]))) (by simp only [execOp, ho])
  case indexAddr t x i =>
    split at hc <;> try (cases hc; done)
    · rename_i e hu
      split at hc <;> try (cases hc; done)
      rename_i s hs
      cases hc; rw [XI.run_k2] at hg
      exact lift (indexAddrS_sound hfl hu hs hg (hρ x (by simp [Op.operands])) (hρ i (by simp [Op.operands]))) (by simp only [execOp, ho])
    · rename_i len e hu
      split at hc <;> try (cases hc; done)
      rename_i s hs
      cases hc; rw [XI.run_k2] at hg
      exact lift (indexAddrA_sound hfl hu hs hg (hρ x (by simp [Op.operands])) (hρ i (by simp [Op.operands]))) (by simp only [execOp, ho])
  case index t x i =>
    split at hc <;> try (cases hc; done)
    · rename_i len e hu
      split at hc <;> try (cases hc; done)
      rename_i b s hb hs
      cases hc; rw [XI.run_k2] at hg
      exact lift (indexB_sound hfl hu hb hs hg (hρ x (by simp [Op.operands])) (hρ i (by simp [Op.operands]))) (by simp only [execOp, ho])
    · rename_i hu
      cases hc; rw [XI.run_k2] at hg
      exact lift (indexS_sound hfl hu hg (hρ x (by simp [Op.operands])) (hρ i (by simp [Op.operands]))) (by simp only [execOp, ho])
  case lookup t x i ok =>
    split at hc <;> try (cases hc; done)
    rename_i kt et hu
    split at hc <;> try (cases hc; done)
    rename_i z hz
    split at hc <;> try (cases hc; done)
    rename_i hzs
    cases hc; rw [XI.run_k2] at hg
    cases hi : P.info? et with
    | none => rw [hi] at hz; simp at hz
    | some inf =>
      rw [hi] at hz; simp at hz
      exact lift (lookupB_sound hfl hu hi hz hzs ok hr hg (hρ x (by simp [Op.operands])) (hρ i (by simp [Op.operands]))) (by simp only [execOp, ho])
  case typeAssert x xt t ok =>
    split at hc <;> try (cases hc; done)
    rename_i d z hni hu hz
    split at hc <;> try (cases hc; done)
    rename_i hzs
    cases hc; rw [XI.run_k1] at hg
    cases hi : P.info? t with
    | none => rw [hi] at hz; simp at hz
    | some inf =>
      rw [hi] at hz; simp at hz
      exact lift (typeAssertB_sound (xt := xt) hfl hu (fun ms e => hni ms e) hi hz hzs ok hg (hρ x (by simp [Op.operands]))) (by simp only [execOp, ho])
  case extract x i =>
    cases hc; rw [XI.run_k1] at hg
    exact lift (extractB_sound hfl hg (hρ x (by simp [Op.operands]))) (by simp only [execOp, ho])
  case call c =>
    obtain ⟨callee, args, ts⟩ := c
    cases callee <;> (try simp only at hc) <;> try (cases hc; done)
    rename_i b
    cases b <;> (try simp only at hc) <;> try (cases hc; done)
    case len =>
      split at hc <;> try (cases hc; done)
      rename_i x t hx ht
      have hargs : args = #[x] := Array.ext' (by simpa using hx)
      have hxv : VR φ (evv tm x) (ρ x) := hρ x (by simp [Op.operands, Call.operands, hargs])
      have hex : execOp ρ o = (do pure (Next.value (← Builtin.len_ ts o.type #[ρ x]))) := by
        simp [execOp, ho, resolve, invoke, builtin, hargs]
      split at hc <;> try (cases hc; done)
      · rename_i hu; cases hc; rw [XI.run_k1] at hg
        exact lift (lenStr_sound hfl hg hxv ht hu) hex
      · rename_i hu; cases hc; rw [XI.run_k1] at hg
        exact lift (lenSli_sound hfl hg hxv ht hu) hex
      · rename_i hu; cases hc; rw [XI.run_k1] at hg
        exact lift (lenMap_sound hfl hg hxv hr ht hu) hex
    case min =>
      split at hc <;> try (cases hc; done)
      rename_i a b hx
      have hargs : args = #[a, b] := Array.ext' (by simpa using hx)
      have ha : VR φ (evv tm a) (ρ a) := hρ a (by simp [Op.operands, Call.operands, hargs])
      have hb : VR φ (evv tm b) (ρ b) := hρ b (by simp [Op.operands, Call.operands, hargs])
      cases hc; rw [XI.run_k2] at hg
      have hex : execOp ρ o = (do pure (Next.value (← Builtin.min_ ts o.type #[ρ a, ρ b]))) := by simp [execOp, ho, resolve, invoke, builtin, hargs]
      unfold minB at hg
      split at hg <;> try exact absurd hg hfl
      rename_i k x k' y e1 e2
      rw [e1] at ha; rw [e2] at hb
      have e3 : ρ a = .int k x := by generalize ρ a = z at ha; cases ha; rfl
      have e4 : ρ b = .int k' y := by generalize ρ b = z at hb; cases hb; rfl
      have hrun := run_min_int2 (P := P) (w := w) ts o.type k k' x y
      rw [e3, e4] at hex
      split at hg
      · rename_i hlt
        rw [iltB_eq, decide_eq_true_eq] at hlt
        rw [if_pos hlt] at hrun
        exact lift ⟨_, _, hg, .int _ _, hrun⟩ hex
      · rename_i hlt
        rw [iltB_eq, decide_eq_false_iff_not] at hlt
        rw [if_neg hlt] at hrun
        exact lift ⟨_, _, hg, .int _ _, hrun⟩ hex
    case max =>
      split at hc <;> try (cases hc; done)
      rename_i a b hx
      have hargs : args = #[a, b] := Array.ext' (by simpa using hx)
      have ha : VR φ (evv tm a) (ρ a) := hρ a (by simp [Op.operands, Call.operands, hargs])
      have hb : VR φ (evv tm b) (ρ b) := hρ b (by simp [Op.operands, Call.operands, hargs])
      cases hc; rw [XI.run_k2] at hg
      have hex : execOp ρ o = (do pure (Next.value (← Builtin.max_ ts o.type #[ρ a, ρ b]))) := by simp [execOp, ho, resolve, invoke, builtin, hargs]
      unfold maxB at hg
      split at hg <;> try exact absurd hg hfl
      rename_i k x k' y e1 e2
      rw [e1] at ha; rw [e2] at hb
      have e3 : ρ a = .int k x := by generalize ρ a = z at ha; cases ha; rfl
      have e4 : ρ b = .int k' y := by generalize ρ b = z at hb; cases hb; rfl
      have hrun := run_max_int2 (P := P) (w := w) ts o.type k k' x y
      rw [e3, e4] at hex
      split at hg
      · rename_i hlt
        rw [iltB_eq, decide_eq_true_eq] at hlt
        rw [if_pos hlt] at hrun
        exact lift ⟨_, _, hg, .int _ _, hrun⟩ hex
      · rename_i hlt
        rw [iltB_eq, decide_eq_false_iff_not] at hlt
        rw [if_neg hlt] at hrun
        exact lift ⟨_, _, hg, .int _ _, hrun⟩ hex

end Go.Vai
