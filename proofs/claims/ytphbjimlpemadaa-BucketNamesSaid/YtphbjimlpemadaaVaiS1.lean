/-
  PROVED HERE: a part of an interpreter for the model's code, and that it is sound.
  The interpreter is sound, part 1: the trie, the forcing functions, the relation between abstract and concrete memory.
-/
import Derived.Test.YtphbjimlpemadaaVaiR
import Derived.Calls
import Derived.IntWalk
set_option linter.unusedVariables false
set_option linter.unusedSimpArgs false
namespace Go.Vai

/-! ## the trie -/
theorem T.getp_nil {α : Type} (p : List Bool) : T.getp p (T.nil : T α) = none := by
  cases p <;> rfl

theorem keyF_succ (f n : Nat) : keyF (f + 1) n = if n = 0 then [] else Nat.beq (n % 2) 1 :: keyF f ((n - 1) / 2) := by
  cases n with
  | zero => rfl
  | succ n => rw [if_neg (by omega)]; rfl

/-- the number of a path -/
def unkey : List Bool → Nat
  | [] => 0
  | true :: p => 2 * unkey p + 1
  | false :: p => 2 * unkey p + 2

theorem unkey_keyF : ∀ (f n : Nat), n < 2 ^ f → unkey (keyF f n) = n := by
  intro f
  induction f with
  | zero => intro n h; have : n = 0 := by simp at h; omega
            subst this; rfl
  | succ f ih =>
    intro n h
    rw [keyF_succ]
    by_cases h0 : n = 0
    · simp [h0, unkey]
    · rw [if_neg h0]
      have h2 : (n - 1) / 2 < 2 ^ f := by rw [Nat.pow_succ] at h; omega
      have := ih _ h2
      by_cases h1 : n % 2 = 1
      · have hb : Nat.beq (n % 2) 1 = true := by rw [h1]; rfl
        rw [hb]; simp only [unkey, this]; omega
      · have hb : Nat.beq (n % 2) 1 = false := by
          have : n % 2 = 0 := by omega
          rw [this]; rfl
        rw [hb]; simp only [unkey, this]; omega

/-- numbers that the trie tells apart -/
def Small (n : Nat) : Prop := n < 2 ^ 200

theorem key_inj {a b : Nat} (ha : Small a) (hb : Small b) (h : key a = key b) : a = b := by
  have h1 := unkey_keyF 200 a ha
  have h2 := unkey_keyF 200 b hb
  unfold key at h
  rw [← h1, ← h2, h]

/-- the trie with one more entry -/
def T.setv {α : Type} (a : α) : List Bool → T α → T α
  | [], .nil => .node .nil (some a) .nil
  | [], .node l _ r => .node l (some a) r
  | false :: p, .nil => .node (T.setv a p .nil) none .nil
  | true :: p, .nil => .node .nil none (T.setv a p .nil)
  | false :: p, .node l v r => .node (T.setv a p l) v r
  | true :: p, .node l v r => .node l v (T.setv a p r)

theorem T.setp_eq {α β : Type} (a : α) (p : List Bool) : ∀ (t : T α) (κ : T α → β), T.setp a p t κ = κ (T.setv a p t) := by
  induction p with
  | nil => intro t κ; cases t <;> rfl
  | cons b p ih =>
    intro t κ
    cases t <;> cases b <;> simp only [T.setv] <;> exact ih _ _

theorem T.getp_setv_same {α : Type} (a : α) (p : List Bool) : ∀ t : T α, T.getp p (T.setv a p t) = some a := by
  induction p with
  | nil => intro t; cases t <;> rfl
  | cons b p ih => intro t; cases t <;> cases b <;> exact ih _

theorem T.getp_setv_ne {α : Type} (a : α) (p : List Bool) : ∀ (q : List Bool) (t : T α), p ≠ q → T.getp q (T.setv a p t) = T.getp q t := by
  induction p with
  | nil =>
    intro q t h
    cases q with
    | nil => exact absurd rfl h
    | cons c q => cases t <;> cases c <;> first | rfl | exact T.getp_nil q
  | cons b p ih =>
    intro q t h
    cases q with
    | nil => cases t <;> cases b <;> rfl
    | cons c q =>
      have hpq : b = c → p ≠ q := fun e e' => h (by rw [e, e'])
      cases b <;> cases c <;> cases t <;> simp only [T.setv] <;>
        first
          | exact ih q _ (hpq rfl)
          | (refine (ih q T.nil (hpq rfl)).trans ?_; rw [T.getp_nil]; rfl)
          | (show T.getp q T.nil = _; rw [T.getp_nil]; rfl)
          | rfl

/-- the trie with n set to a -/
noncomputable def T.upd {α : Type} (t : T α) (n : Nat) (a : α) : T α := T.setv a (key n) t

theorem T.set_eq {α β : Type} (t : T α) (n : Nat) (a : α) (κ : T α → β) : T.set t n a κ = κ (t.upd n a) := T.setp_eq _ _ _ _

theorem T.get_upd_same {α : Type} (t : T α) (n : Nat) (a : α) : (t.upd n a).get n = some a := T.getp_setv_same _ _ _
theorem T.get_upd_ne {α : Type} (t : T α) {n m : Nat} (a : α) (hn : Small n) (hm : Small m) (h : n ≠ m) : (t.upd n a).get m = t.get m :=
  T.getp_setv_ne _ _ _ _ fun e => h (key_inj hn hm e)
theorem T.get_upd {α : Type} (t : T α) {n m : Nat} (a : α) (hn : Small n) (hm : Small m) : (t.upd n a).get m = if n = m then some a else t.get m := by
  by_cases h : n = m
  · subst h; simp [T.get_upd_same]
  · simp [h, T.get_upd_ne t a hn hm h]
theorem T.get_nil {α : Type} (n : Nat) : (T.nil : T α).get n = none := T.getp_nil _

/-! ## forcing -/
section
variable {β : Type}
@[simp] theorem fnK_eq (n : Nat) (κ : Nat → β) : fnK n κ = κ n := by cases n <;> rfl
@[simp] theorem fiK_eq (i : Int) (κ : Int → β) : fiK i κ = κ i := by
  cases i with
  | ofNat n => exact fnK_eq n fun n => κ (.ofNat n)
  | negSucc n => exact fnK_eq n fun n => κ (.negSucc n)
@[simp] theorem fbK_eq (b : Bool) (κ : Bool → β) : fbK b κ = κ b := by cases b <;> rfl

theorem iltB_eq (a b : Int) : iltB a b = decide (a < b) := by
  cases a <;> cases b <;> simp only [iltB]
  · rename_i a b
    rw [Bool.eq_iff_iff]; simp [Nat.ble_eq]; omega
  · rename_i a b
    symm; simp; omega
  · rename_i a b
    symm; simp; omega
  · rename_i a b
    rw [Bool.eq_iff_iff]; simp [Nat.ble_eq]; omega
theorem ieqB_eq (a b : Int) : ieqB a b = decide (a = b) := by
  cases a <;> cases b <;> simp only [ieqB]
  · rename_i a b
    rw [Bool.eq_iff_iff]; simp [Nat.beq_eq]; omega
  · symm; simp
  · symm; simp
  · rename_i a b
    rw [Bool.eq_iff_iff]; simp [Nat.beq_eq]
theorem kindEq_eq (a b : IntKind) : kindEq a b = decide (a = b) := by cases a <;> cases b <;> rfl

theorem wrapB_eq (k : IntKind) (n : Int) : wrapB k n = k.wrap n := by
  cases k <;> cases n <;> simp only [wrapB]
  case i64.ofNat m =>
    split
    · rename_i h; have h := Nat.le_of_ble_eq_true h
      exact (IntWalk.i64_in _ ⟨by show _ ≤ (m : Int); omega, by show (m : Int) ≤ _; omega⟩).symm
    · rfl
  case i64.negSucc m =>
    split
    · rename_i h; have h := Nat.le_of_ble_eq_true h
      have e : Int.negSucc m = -((m : Int) + 1) := by omega
      exact (IntWalk.i64_in _ ⟨by rw [e]; omega, by rw [e]; omega⟩).symm
    · rfl
  case u8.ofNat m =>
    simp only [IntKind.wrap, IntKind.bits, IntKind.signed]; simp; rfl
  case u32.ofNat m =>
    simp only [IntKind.wrap, IntKind.bits, IntKind.signed]; simp; rfl
  case u64.ofNat m =>
    simp only [IntKind.wrap, IntKind.bits, IntKind.signed]; simp; rfl

theorem listEqB_eq : ∀ a b : List UInt8, listEqB a b = decide (a = b) := by
  intro a
  induction a with
  | nil => intro b; cases b <;> simp [listEqB]
  | cons x a ih =>
    intro b
    cases b with
    | nil => simp [listEqB]
    | cons y b =>
      simp only [listEqB]
      cases h : Nat.beq x.toNat y.toNat
      · have : x ≠ y := fun e => by subst e; simp [Nat.beq_refl] at h
        simp [this]
      · have : x = y := UInt8.toNat_inj.1 (Nat.eq_of_beq_eq_true h)
        simp [this, ih b]
theorem bytesEqB_eq (a b : ByteArray) : bytesEqB a b = decide (a = b) := by
  unfold bytesEqB
  rw [listEqB_eq]
  by_cases h : a = b
  · simp [h]
  · have : a.data.toList ≠ b.data.toList := fun e => h (by
      cases a; cases b; simp at e; simp [e])
    simp [h, this]

theorem ev_eq (tm : T Value) (x : Operand) (κ : Value → β) : ev tm x κ = κ (evv tm x) := by
  cases x <;> simp only [ev, evv, tmv]
  split <;> simp_all
theorem evs_eq (tm : T Value) (xs : List Operand) (κ : List Value → β) : evs tm xs κ = κ (xs.map (evv tm)) := by
  induction xs generalizing κ with
  | nil => rfl
  | cons x xs ih => simp only [evs, ev_eq, ih, List.map_cons]

theorem XI.run_k0 (f) (tm : T Value) (h : Heap) (κ : Value → Heap → β) : (XI.k0 f).run tm h κ = f h κ := rfl
theorem XI.run_k1 (x f) (tm : T Value) (h : Heap) (κ : Value → Heap → β) : (XI.k1 x f).run tm h κ = f (evv tm x) h κ := ev_eq _ _ _
theorem XI.run_k2 (x y f) (tm : T Value) (h : Heap) (κ : Value → Heap → β) : (XI.k2 x y f).run tm h κ = f (evv tm x) (evv tm y) h κ := by
  show ev _ _ _ = _; simp only [ev_eq]
theorem XI.run_k3 (x y z f) (tm : T Value) (h : Heap) (κ : Value → Heap → β) : (XI.k3 x y z f).run tm h κ = f (evv tm x) (evv tm y) (evv tm z) h κ := by
  show ev _ _ _ = _; simp only [ev_eq]
theorem XI.run_kn (xs f) (tm : T Value) (h : Heap) (κ : Value → Heap → β) : (XI.kn xs f).run tm h κ = f (xs.map (evv tm)) h κ := evs_eq _ _ _
theorem XA.run_k0 (f) (tm : T Value) (κ : AObj → (Nat → Value) → β) : (XA.k0 f).run tm κ = f κ := rfl
theorem XA.run_k1 (x f) (tm : T Value) (κ : AObj → (Nat → Value) → β) : (XA.k1 x f).run tm κ = f (evv tm x) κ := ev_eq _ _ _
theorem XA.run_k2 (x y f) (tm : T Value) (κ : AObj → (Nat → Value) → β) : (XA.k2 x y f).run tm κ = f (evv tm x) (evv tm y) κ := by
  show ev _ _ _ = _; simp only [ev_eq]
theorem XA.run_kn (xs f) (tm : T Value) (κ : AObj → (Nat → Value) → β) : (XA.kn xs f).run tm κ = f (xs.map (evv tm)) κ := evs_eq _ _ _
end

/-! ## the relation -/
/-- where an abstract block lies: its concrete block; of an open one its cells, and the cells of an element -/
structure Pl where
  B : Nat
  sz : Nat
  e : Nat
abbrev Emb := Nat → Option Pl

inductive VR (φ : Emb) : Value → Value → Prop where
  | bool (b : Bool) : VR φ (.bool b) (.bool b)
  | int (k : IntKind) (n : Int) : VR φ (.int k n) (.int k n)
  | string (s : ByteArray) : VR φ (.string s) (.string s)
  | nilFunc : VR φ .nilFunc .nilFunc
  | nilIface : VR φ .nilIface .nilIface
  | ptrNil : VR φ (.pointer none) (.pointer none)
  | ptr {b o : Nat} {pl : Pl} (h : φ b = some pl) : VR φ (.pointer (some ⟨b, o, none⟩)) (.pointer (some ⟨pl.B, o, none⟩))
  | sliceNil {n c : Nat} (h : n ≤ c) : VR φ (.slice none n c) (.slice none n c)
  | slice {b o n c : Nat} {pl : Pl} (h : φ b = some pl) (hn : n ≤ c) (hc : c < openCap) : VR φ (.slice (some ⟨b, o, none⟩) n c) (.slice (some ⟨pl.B, o, none⟩) n c)
  | sliceOpen {b o n c : Nat} {pl : Pl} (h : φ b = some pl) (hn : n ≤ c) (hc : c * pl.e + o = pl.sz) :
      VR φ (.slice (some ⟨b, o, none⟩) n openCap) (.slice (some ⟨pl.B, o, none⟩) n c)
  | sliceAny (a a' : Addr) (c : Nat) : VR φ (.slice (some a) 0 anyCap) (.slice (some a') 0 c)
  | mapNil : VR φ (.map none) (.map none)
  | map {b : Nat} {pl : Pl} (h : φ b = some pl) : VR φ (.map (some b)) (.map (some pl.B))
  | yield {b : Nat} {pl : Pl} (h : φ b = some pl) : VR φ (.func (.yield b) #[] #[]) (.func (.yield pl.B) #[] #[])
  | func (fn : FuncId) (a a' b b' : Array Value) (ha : a.toList.length = a'.toList.length) (hb : b.toList.length = b'.toList.length)
      (hva : ∀ (i : Nat) (v v' : Value), a.toList[i]? = some v → a'.toList[i]? = some v' → VR φ v v')
      (hvb : ∀ (i : Nat) (v v' : Value), b.toList[i]? = some v → b'.toList[i]? = some v' → VR φ v v') : VR φ (.func (.func fn) a b) (.func (.func fn) a' b')
  | iface (t : TypeId) {v v' : Value} (h : VR φ v v') : VR φ (.iface t v) (.iface t v')
  | agg (a a' : Array Value) (ha : a.toList.length = a'.toList.length)
      (hva : ∀ (i : Nat) (v v' : Value), a.toList[i]? = some v → a'.toList[i]? = some v' → VR φ v v') : VR φ (.agg a) (.agg a')
  | tuple (a a' : Array Value) (ha : a.toList.length = a'.toList.length)
      (hva : ∀ (i : Nat) (v v' : Value), a.toList[i]? = some v → a'.toList[i]? = some v' → VR φ v v') : VR φ (.tuple a) (.tuple a')

/-- one by one -/
inductive F2 {α γ : Type} (R : α → γ → Prop) : List α → List γ → Prop where
  | nil : F2 R [] []
  | cons {a : α} {b : γ} {l : List α} {m : List γ} (h : R a b) (t : F2 R l m) : F2 R (a :: l) (b :: m)

theorem F2.length {α γ : Type} {R : α → γ → Prop} {l : List α} {m : List γ} (h : F2 R l m) : l.length = m.length := by
  induction h with
  | nil => rfl
  | cons _ _ ih => simp [ih]
theorem F2.get {α γ : Type} {R : α → γ → Prop} {l : List α} {m : List γ} (h : F2 R l m) : ∀ (i : Nat) (a : α), l[i]? = some a → ∃ b, m[i]? = some b ∧ R a b := by
  induction h with
  | nil => intro i a e; simp at e
  | cons hr _ ih =>
    intro i a e
    cases i with
    | zero => simp at e; subst e; exact ⟨_, by simp, hr⟩
    | succ i => simp at e; obtain ⟨b, hb, hr'⟩ := ih i a e; exact ⟨b, by simpa using hb, hr'⟩
theorem F2.of_get {α γ : Type} {R : α → γ → Prop} : ∀ {l : List α} {m : List γ}, l.length = m.length →
    (∀ (i : Nat) (a : α) (b : γ), l[i]? = some a → m[i]? = some b → R a b) → F2 R l m := by
  intro l
  induction l with
  | nil => intro m h _; cases m with | nil => exact .nil | cons _ _ => simp at h
  | cons a l ih =>
    intro m h hr
    cases m with
    | nil => simp at h
    | cons b m => exact .cons (hr 0 a b (by simp) (by simp)) (ih (by simpa using h) fun i x y hx hy => hr (i + 1) x y (by simpa using hx) (by simpa using hy))
theorem F2.imp {α γ : Type} {R S : α → γ → Prop} {l : List α} {m : List γ} (h : F2 R l m) (k : ∀ a b, R a b → S a b) : F2 S l m := by
  induction h with
  | nil => exact .nil
  | cons hr _ ih => exact .cons (k _ _ hr) ih
theorem F2.append {α γ : Type} {R : α → γ → Prop} {l l' : List α} {m m' : List γ} (h : F2 R l m) (h' : F2 R l' m') : F2 R (l ++ l') (m ++ m') := by
  induction h with
  | nil => exact h'
  | cons hr _ ih => exact .cons hr ih
theorem F2.take {α γ : Type} {R : α → γ → Prop} {l : List α} {m : List γ} (h : F2 R l m) (n : Nat) : F2 R (l.take n) (m.take n) := by
  induction h generalizing n with
  | nil => simp; exact .nil
  | cons hr _ ih => cases n with | zero => exact .nil | succ n => exact .cons hr (ih n)
theorem F2.drop {α γ : Type} {R : α → γ → Prop} {l : List α} {m : List γ} (h : F2 R l m) (n : Nat) : F2 R (l.drop n) (m.drop n) := by
  induction h generalizing n with
  | nil => simp; exact .nil
  | cons hr ht ih => cases n with | zero => exact .cons hr ht | succ n => exact ih n
theorem F2.map {α γ δ : Type} {R : α → γ → Prop} {f : δ → α} {g : δ → γ} (l : List δ) (h : ∀ x ∈ l, R (f x) (g x)) : F2 R (l.map f) (l.map g) := by
  induction l with
  | nil => exact .nil
  | cons x l ih => exact .cons (h x (by simp)) (ih fun y hy => h y (by simp [hy]))

theorem VR.agg' {φ : Emb} {a a' : Array Value} (h : F2 (VR φ) a.toList a'.toList) : VR φ (.agg a) (.agg a') :=
  .agg a a' h.length fun i v v' e e' => by obtain ⟨b, hb, hr⟩ := h.get i v e; rw [hb] at e'; cases e'; exact hr
theorem VR.tuple' {φ : Emb} {a a' : Array Value} (h : F2 (VR φ) a.toList a'.toList) : VR φ (.tuple a) (.tuple a') :=
  .tuple a a' h.length fun i v v' e e' => by obtain ⟨b, hb, hr⟩ := h.get i v e; rw [hb] at e'; cases e'; exact hr
theorem VR.func' {φ : Emb} {fn : FuncId} {a a' b b' : Array Value} (h : F2 (VR φ) a.toList a'.toList) (k : F2 (VR φ) b.toList b'.toList) : VR φ (.func (.func fn) a b) (.func (.func fn) a' b') :=
  .func fn a a' b b' h.length k.length (fun i v v' e e' => by obtain ⟨b, hb, hr⟩ := h.get i v e; rw [hb] at e'; cases e'; exact hr)
    (fun i v v' e e' => by obtain ⟨b, hb, hr⟩ := k.get i v e; rw [hb] at e'; cases e'; exact hr)
theorem VR.undef {φ : Emb} : VR φ undef undef := VR.tuple' .nil

/-- more blocks have places -/
def Sub (φ φ' : Emb) : Prop := ∀ b pl, φ b = some pl → φ' b = some pl
theorem Sub.refl (φ : Emb) : Sub φ φ := fun _ _ h => h
theorem Sub.trans {φ φ' φ'' : Emb} (h : Sub φ φ') (k : Sub φ' φ'') : Sub φ φ'' := fun b pl e => k b pl (h b pl e)

theorem VR.mono {φ φ' : Emb} (hs : Sub φ φ') {v v' : Value} (h : VR φ v v') : VR φ' v v' := by
  induction h with
  | bool b => exact .bool b
  | int k n => exact .int k n
  | string s => exact .string s
  | nilFunc => exact .nilFunc
  | nilIface => exact .nilIface
  | ptrNil => exact .ptrNil
  | ptr h => exact .ptr (hs _ _ h)
  | sliceNil h => exact .sliceNil h
  | slice h hn hc => exact .slice (hs _ _ h) hn hc
  | sliceOpen h hn hc => exact .sliceOpen (hs _ _ h) hn hc
  | sliceAny a a' c => exact .sliceAny a a' c
  | mapNil => exact .mapNil
  | map h => exact .map (hs _ _ h)
  | yield h => exact .yield (hs _ _ h)
  | func fn a a' b b' ha hb _ _ iha ihb => exact .func fn a a' b b' ha hb iha ihb
  | iface t _ ih => exact .iface t ih
  | agg a a' ha _ ih => exact .agg a a' ha ih
  | tuple a a' ha _ ih => exact .tuple a a' ha ih

/-- an entry of a map -/
structure ER (φ : Emb) (x x' : MapEntry) : Prop where
  key : VR φ x.key x'.key
  val : VR φ x.val x'.val
  born : x'.born = x.born

/-- the jump that is pending -/
def PendR : Option Ex → Option Code → Prop
  | none, none => True
  | some .ret, some .ret => True
  | some (.exit i), some (.exit j) => i = j
  | _, _ => False

/-- the code of a range over a function, at nt slots -/
structure LoopCode (nt : Nat) (ps : List Nat) (a b : Code) : Prop where
  small : nt ≤ 1000000000000
  ps : ps.all (fun t => Nat.ble (Nat.succ t) nt) = true
  ca : codeOk nt a = true
  cb : codeOk nt b = true
  ra : noRf a = true
  rb : noRf b = true

/-- what an abstract block says of the concrete one -/
def OR (P : Program) (φ : Emb) : AObj → Pl → Option Obj → Prop
  | .cells n c e op, pl, some (.cells C e' fz) => e' = e ∧ fz = (0, 0) ∧ n ≤ C.size ∧ n ≤ 4611686018427387904 ∧ (op = true → C.size = pl.sz ∧ szOf P e = some pl.e ∧ 0 < pl.e) ∧
      ∀ i v, c.get i = some v → i < n → ∃ v', C[i]? = some v' ∧ VR φ v v'
  | .map es clock, _, some (.map es' clock') => clock' = clock ∧ F2 (ER φ) es es'.toList
  | .miter m since seen stepped, _, some (.mapIter m' since' seen' stepped') => since' = since ∧ stepped' = stepped ∧ seen'.toList = seen.reverse ∧
      ((m = none ∧ m' = none) ∨ ∃ b pl', m = some b ∧ φ b = some pl' ∧ m' = some pl'.B)
  | .loop st pend tm ps a b, _, some (.loop r) => r.state = st ∧ PendR pend r.pending ∧ r.params.toList = ps ∧ r.assign = a ∧ r.body = b ∧
      ∃ nt, LoopCode nt ps a b ∧ r.tmps.size = nt ∧ ∀ t, t < nt → VR φ (tmv tm t) (r.tmps.getD t undef)
  | .ro n c e, _, some (.cells C e' _) => e' = e ∧ n ≤ C.size ∧ n ≤ 4611686018427387904 ∧ ∀ i v, c.get i = some v → i < n → ∃ v', C[i]? = some v' ∧ VR φ v v'
  | .dead n e, pl, _ => n ≤ pl.sz ∧ n ≤ 4611686018427387904 ∧ szOf P e = some pl.e ∧ 0 < pl.e
  | _, _, _ => False

def AObj.live : AObj → Prop
  | .dead .. => False
  | _ => True

theorem OR.mono {P : Program} {φ φ' : Emb} (hs : Sub φ φ') {o : AObj} {pl : Pl} {O : Option Obj} (h : OR P φ o pl O) : OR P φ' o pl O := by
  cases o with
  | cells n c e op =>
    cases O with
    | none => exact h
    | some O => cases O <;> simp only [OR] at h ⊢
                exact ⟨h.1, h.2.1, h.2.2.1, h.2.2.2.1, h.2.2.2.2.1, fun i v e hi => let ⟨v', a, b⟩ := h.2.2.2.2.2 i v e hi; ⟨v', a, b.mono hs⟩⟩
  | map es clock =>
    cases O with
    | none => exact h
    | some O => cases O <;> simp only [OR] at h ⊢
                exact ⟨h.1, h.2.imp fun a b r => ⟨r.key.mono hs, r.val.mono hs, r.born⟩⟩
  | miter m since seen stepped =>
    cases O with
    | none => exact h
    | some O => cases O <;> simp only [OR] at h ⊢
                exact ⟨h.1, h.2.1, h.2.2.1, h.2.2.2.imp id fun ⟨b, pl', x, y, z⟩ => ⟨b, pl', x, hs _ _ y, z⟩⟩
  | siter s pos => cases O with
    | none => exact h
    | some O => cases O <;> exact h
  | dead n e => cases O with
    | none => exact h
    | some O => cases O <;> exact h
  | ro n c e =>
    cases O with
    | none => exact h
    | some O => cases O <;> simp only [OR] at h ⊢
                exact ⟨h.1, h.2.1, h.2.2.1, fun i v e hi => let ⟨v', a, b⟩ := h.2.2.2 i v e hi; ⟨v', a, b.mono hs⟩⟩
  | loop st pend tm ps a b =>
    cases O with
    | none => exact h
    | some O => cases O <;> simp only [OR] at h ⊢
                obtain ⟨h1, h2, h3, h4, h5, nt, h6, h7, h8⟩ := h
                exact ⟨h1, h2, h3, h4, h5, nt, h6, h7, fun t ht => (h8 t ht).mono hs⟩

/-- (nothing is asked here any more) -/
def UF (_ : Option Obj) : Prop := True

theorem UF_of_OR {P : Program} {φ : Emb} {o : AObj} {pl : Pl} {O : Option Obj} (_h : OR P φ o pl O) (_hl : o.live) : UF O := trivial

structure HR (P : Program) (φ : Emb) (h : Heap) (w : World) : Prop where
  obj : ∀ b o pl, h.bl.get b = some o → φ b = some pl → OR P φ o pl w.heap[pl.B]?
  dom : ∀ b pl, φ b = some pl → b < h.nx ∧ pl.B < w.heap.size
  keys : ∀ b o, Small b → h.bl.get b = some o → b < h.nx
  nxs : h.nx < 2 ^ 199
  inj : ∀ b b' o o' pl pl', h.bl.get b = some o → h.bl.get b' = some o' → o.live → o'.live → φ b = some pl → φ b' = some pl' → pl.B = pl'.B → b = b'
  lo : h.lo ≤ h.nx

/-- what a piece of the run does to memory -/
structure Ext (φ φ' : Emb) (h h' : Heap) (w w' : World) : Prop where
  sub : Sub φ φ'
  new : ∀ b pl, φ b = none → φ' b = some pl → h.nx ≤ b ∧ (w.heap.size ≤ pl.B ∨ ∃ b0 pl0, φ b0 = some pl0 ∧ pl0.B = pl.B)
  nx : h.nx ≤ h'.nx
  size : w.heap.size ≤ w'.heap.size
  frC : ∀ B, B < w.heap.size → (∀ b pl, φ b = some pl → pl.B ≠ B) → w'.heap[B]? = w.heap[B]?
  frA : ∀ b, b < h.nx → φ b = none → h'.bl.get b = h.bl.get b
  tape : w'.tape = w.tape
  os : w'.os = w.os
  output : w'.output = w.output
  fz : ∀ B : Nat, UF w.heap[B]? → UF w'.heap[B]?
  lo : h'.lo = h.lo
  frL : ∀ b, b < h.lo → h'.bl.get b = h.bl.get b

theorem Ext.refl (φ : Emb) (h : Heap) (w : World) : Ext φ φ h h w w :=
  ⟨Sub.refl φ, fun b pl a b' => (by rw [a] at b'; cases b'), Nat.le_refl _, Nat.le_refl _, fun _ _ _ => rfl, fun _ _ _ => rfl, rfl, rfl, rfl, fun _ => id, rfl, fun _ _ => rfl⟩

theorem Ext.trans {φ φ' φ'' : Emb} {h h' h'' : Heap} {w w' w'' : World} (a : Ext φ φ' h h' w w') (b : Ext φ' φ'' h' h'' w' w'') :
    Ext φ φ'' h h'' w w'' where
  sub := a.sub.trans b.sub
  new := fun x pl e e'' => by
    cases hx : φ' x with
    | some pl' =>
      have := b.sub x pl' hx
      rw [e''] at this
      cases this
      exact a.new x pl e hx
    | none =>
      obtain ⟨h1, h2⟩ := b.new x pl hx e''
      refine ⟨Nat.le_trans a.nx h1, ?_⟩
      rcases h2 with h2 | ⟨b0, pl0, hb0, hB⟩
      · exact .inl (Nat.le_trans a.size h2)
      · cases h0 : φ b0 with
        | some p =>
          have := a.sub b0 p h0
          rw [hb0] at this
          cases this
          exact .inr ⟨b0, pl0, h0, hB⟩
        | none =>
          obtain ⟨_, h3⟩ := a.new b0 pl0 h0 hb0
          rw [hB] at h3
          exact h3
  nx := Nat.le_trans a.nx b.nx
  size := Nat.le_trans a.size b.size
  frC := fun B hB hn => by
    rw [b.frC B (Nat.lt_of_lt_of_le hB a.size) ?_, a.frC B hB hn]
    intro x pl hx e
    cases h0 : φ x with
    | some p =>
      have := a.sub x p h0
      rw [hx] at this
      cases this
      exact hn x pl h0 e
    | none =>
      obtain ⟨_, h3⟩ := a.new x pl h0 hx
      rcases h3 with h3 | ⟨b0, pl0, hb0, hB0⟩
      · omega
      · exact hn b0 pl0 hb0 (hB0.trans e)
  frA := fun x hx hn => by
    have h1 : φ' x = none := by
      cases h1 : φ' x with
      | none => rfl
      | some pl => have := (a.new x pl hn h1).1; omega
    rw [b.frA x (Nat.lt_of_lt_of_le hx a.nx) h1, a.frA x hx hn]
  tape := b.tape.trans a.tape
  os := b.os.trans a.os
  output := b.output.trans a.output
  fz := fun B h => b.fz B (a.fz B h)
  lo := b.lo.trans a.lo
  frL := fun x hx => (b.frL x (by rw [a.lo]; exact hx)).trans (a.frL x hx)

end Go.Vai
