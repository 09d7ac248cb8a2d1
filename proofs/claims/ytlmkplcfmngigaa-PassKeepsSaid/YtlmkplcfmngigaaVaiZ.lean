/-
  PROVED HERE: a part of a calculus of weakest conditions over an abstract heap.
  A law's arguments: slices that come in, told as lists; the row's end. (Program-independent.)
-/
import Derived.Test.YtlmkplcfmngigaaVaiN
import Derived.Deep.Slices
import Derived.Carry
import Derived.ProofKit
set_option linter.unusedVariables false
set_option linter.unusedSimpArgs false
namespace Go.Vai
open Go Go.RowKit Go.WideShapes Go.ChangeShapes
variable {P : Program}

/-- what lay before lies as it lay: of the whole call -/
theorem below_ro {φ φ' : Emb} {h h' : Heap} {w w' : World} (hx : Ext φ φ' h h' w w') (hro : ∀ b pl, φ b = some pl → b < h.lo ∧ ∃ o, h.bl.get b = some o ∧ o.live) : Below w.heap.size w w' := by
  refine ⟨hx.os, hx.tape, hx.output, hx.size, fun B hB => ?_⟩
  by_cases he : ∃ b pl, φ b = some pl ∧ pl.B = B
  · obtain ⟨b, pl, h1, rfl⟩ := he
    obtain ⟨h2, o, h3, h4⟩ := hro b pl h1
    exact hx.frW b o pl h2 h3 h4 h1 hB
  · exact hx.frC B hB fun b pl h1 h2 => he ⟨b, pl, h1, h2⟩

theorem lawEndB {f : FuncId} {args args' : List Value} {φ : Emb} {h : Heap} {w : World} (hc : CallW P f args h IsTrue) (ha : F2 (VR φ) args args') (hr : HR P φ h w) (hro : ∀ b pl, φ b = some pl → b < h.lo ∧ ∃ o, h.bl.get b = some o ∧ o.live) :
    Calls P f args'.toArray w fun e w' => e = .returned (.bool true) ∧ Below w.heap.size w w' := by
  refine Calls.mono (hc φ w args' ha hr).2 ?_
  rintro e w' ⟨φ', v, v', h', rfl, g1, g2, g3, g4⟩
  have g1 : v = .bool true := g1
  subst g1
  cases g2
  exact ⟨rfl, below_ro g4 hro⟩

/-! ## one slice that came in -/
section
variable {α : Type} {encA : α → List Value} {s : Nat}
/-- where a slice that came in lies -/
def ArgIs (encA : α → List Value) (w : World) (v : Value) (L : List α) : Prop :=
  (L = [] ∧ (v = .slice none 0 0 ∨ ∃ a cap, v = .slice (some a) 0 cap)) ∨
  ∃ B o cap C e fz, v = .slice (some ⟨B, o, none⟩) L.length cap ∧ L.length ≤ cap ∧ cap ≤ maxLen ∧ w.heap[B]? = some (.cells C e fz) ∧ o + (L.flatMap encA).length ≤ C.size ∧ ∀ j u, (L.flatMap encA)[j]? = some u → C[o + j]? = some u

theorem choose_list {n : Nat} {p : Nat → α → Prop} (h : ∀ i, i < n → ∃ x, p i x) : ∃ L : List α, L.length = n ∧ ∀ i a, L[i]? = some a → p i a := by
  induction n with
  | zero => exact ⟨[], rfl, fun i a e => by simp at e⟩
  | succ n ih =>
    obtain ⟨L, h1, h2⟩ := ih fun i hi => h i (Nat.lt_succ_of_lt hi)
    obtain ⟨a, ha⟩ := h n (Nat.lt_succ_self n)
    refine ⟨L ++ [a], by simp [h1], fun i b e => ?_⟩
    rcases Nat.lt_or_ge i n with hi | hi
    · rw [List.getElem?_append_left (by omega)] at e; exact h2 i b e
    · have : i = n := by
        have := (List.getElem?_eq_some_iff.1 e).1
        simp [h1] at this; omega
      subst this
      rw [List.getElem?_append_right (by omega), h1] at e
      simp at e; subst e; exact ha

theorem flat_getElem (he : ∀ a : α, (encA a).length = s) (hs : 0 < s) : ∀ (L : List α) (j : Nat) (u : Value), (L.flatMap encA)[j]? = some u → ∃ a, L[j / s]? = some a ∧ (encA a)[j % s]? = some u := by
  intro L
  induction L with
  | nil => intro j u e; simp at e
  | cons a L ih =>
    intro j u e
    simp only [List.flatMap_cons] at e
    rcases Nat.lt_or_ge j s with hj | hj
    · rw [List.getElem?_append_left (by rw [he]; exact hj)] at e
      rw [Nat.div_eq_of_lt hj, Nat.mod_eq_of_lt hj]
      exact ⟨a, rfl, e⟩
    · rw [List.getElem?_append_right (by rw [he]; exact hj), he] at e
      obtain ⟨b, h1, h2⟩ := ih (j - s) u e
      refine ⟨b, ?_, ?_⟩
      · rw [Nat.div_eq_sub_div hs hj]; simpa using h1
      · rw [Nat.mod_eq_sub_mod hj]; exact h2

theorem open_arg {H : Type} {enc : TypeId × Value → H} {w : World} {t e : TypeId} {fuel : Nat} {v : Value} {x : DataW H × List MemPlace} (he : ∀ a : α, (encA a).length = s) (hs : 0 < s) (ht : P.underlying t = some (.slice e)) (hc : P.cellsOf e = s)
    (hdec : ∀ (n : Nat) (cs : List Value) (d : DataW H × List MemPlace), cs.length = s → DataW.trod enc P w 0 (fun _ => true) true n e cs = some d → ∃ a : α, cs = encA a)
    (h : DataW.trod enc P w 0 (fun _ => true) true fuel t [v] = some x) : ∃ L : List α, ArgIs encA w v L := by
  rcases Go.Deep.open_slice ht h with ⟨h1, _⟩ | ⟨a, len, cap, m, n, D, Pl, h1, hb, hl, hm, hmm, hx, hi⟩
  · cases h1; exact ⟨[], .inl ⟨rfl, .inl rfl⟩⟩
  · cases h1
    simp only [if_true] at hmm
    subst hmm
    by_cases hlen : len = 0
    · subst hlen; exact ⟨[], .inl ⟨rfl, .inr ⟨a, _, rfl⟩⟩⟩
    · have hel : ∀ i, i < len → ∃ p : α, ∀ j u, (encA p)[j]? = some u → w.cell? (a.add (i * s + j)) = some u := by
        intro i hil
        obtain ⟨cs, h2, h3⟩ := hi i (by omega)
        rw [hc] at h2
        obtain ⟨_, h4, h5⟩ := World.cells?_some h2
        obtain ⟨p, rfl⟩ := hdec n cs _ h4 h3
        refine ⟨p, fun j u hj => ?_⟩
        have hjs : j < s := by have := (List.getElem?_eq_some_iff.1 hj).1; rwa [he] at this
        have := h5 j hjs
        rw [Go.Deep.add_add] at this
        rw [this, hj]
      obtain ⟨L, hL, hp⟩ := choose_list hel
      have hcell : ∀ j u, (L.flatMap encA)[j]? = some u → w.cell? (a.add j) = some u := by
        intro j u hj
        obtain ⟨p, g1, g2⟩ := flat_getElem he hs L j u hj
        have := hp _ p g1 _ u g2
        rwa [Nat.mul_comm, Nat.div_add_mod] at this
      have hfl := flat_length (enc := encA) he L
      have hpos : 0 < (L.flatMap encA).length := by rw [hfl, hL]; exact Nat.mul_pos (by omega) hs
      have h0 := hcell 0 _ (List.getElem?_eq_getElem hpos)
      have ha0 : a.add 0 = a := by simp [Addr.add]
      rw [ha0] at h0
      obtain ⟨B, o, sp⟩ := a
      unfold World.cell? at h0
      split at h0 <;> try contradiction
      rename_i C e' fz hC
      cases sp with
      | some q => simp at h0
      | none =>
        refine ⟨L, .inr ⟨B, o, m, C, e', fz, by rw [hL], by omega, hm, hC, ?_, ?_⟩⟩
        · have hlast := hcell ((L.flatMap encA).length - 1) _ (List.getElem?_eq_getElem (by omega))
          have hadd : (⟨B, o, none⟩ : Addr).add ((L.flatMap encA).length - 1) = ⟨B, o + ((L.flatMap encA).length - 1), none⟩ := by unfold Addr.add; split <;> simp_all
          rw [hadd] at hlast
          simp only [World.cell?, hC] at hlast
          have := (Array.getElem?_eq_some_iff.1 hlast).1
          omega
        · intro j u hj
          have hx := hcell j u hj
          have hadd : (⟨B, o, none⟩ : Addr).add j = ⟨B, o + j, none⟩ := by unfold Addr.add; split <;> simp_all
          rw [hadd] at hx
          simpa [World.cell?, hC] using hx

/-- a heap of one block that came in -/
noncomputable def heap1 (o : AObj) : Heap := ⟨1, T.nil.upd 0 o, 1⟩
def emb1 (B : Nat) : Emb := fun b => if b = 0 then some ⟨B, 0, 0⟩ else none
def heap0 : Heap := ⟨0, .nil, 0⟩
def emb0 : Emb := fun _ => none

theorem hr_heap0 (w : World) : HR P emb0 heap0 w := HR.start w
theorem hr_heap1 {w : World} {B o : Nat} {C : Array Value} {e : TypeId} {fz : Nat × Nat} {vs : List Value} (hC : w.heap[B]? = some (.cells C e fz)) (hle : o + vs.length ≤ C.size) (hv : ∀ j u, vs[j]? = some u → C[o + j]? = some u) (hsc : vs.all scal1 = true) :
    HR P (emb1 B) (heap1 (.ro (o + vs.length) (lay vs .nil o) e)) w := by
  have hB : B < w.heap.size := by have := (Array.getElem?_eq_some_iff.1 hC).1; exact this
  refine ⟨?_, ?_, ?_, Nat.lt_succ_self _, ?_, Nat.le_refl _⟩
  · intro b ob pl h1 h2
    unfold emb1 at h2
    split at h2
    · rename_i h0; subst h0; cases h2
      have : ob = .ro (o + vs.length) (lay vs .nil o) e := by
        have h3 : (T.nil.upd 0 (AObj.ro (o + vs.length) (lay vs .nil o) e)).get 0 = some ob := h1
        rw [T.get_upd_same] at h3; cases h3; rfl
      subst this
      rw [hC]
      refine ⟨rfl, hle, fun i u hg hi => ?_⟩
      rw [get_lay'] at hg
      split at hg
      · rename_i hh
        refine ⟨u, ?_, ?_⟩
        · have := hv _ u hg; rwa [show o + (i - o) = i by omega] at this
        · exact VR.scal (List.all_eq_true.1 hsc u (List.mem_of_getElem? hg))
      · rw [T.get_nil] at hg; cases hg
    · cases h2
  · intro b pl h2
    unfold emb1 at h2
    split at h2
    · rename_i h0; subst h0; cases h2; exact ⟨by show 0 < 1; omega, hB⟩
    · cases h2
  · intro b ob _ h1
    show b < 1
    by_cases h0 : 0 = b
    · omega
    · have : (T.nil.upd 0 (AObj.ro (o + vs.length) (lay vs .nil o) e)).get b = some ob := h1
      rw [T.get_updne _ _ h0, T.get_nil] at this; cases this
  · intro b b' o1 o2 pl pl' _ _ _ _ h1 h2 _
    unfold emb1 at h1 h2
    split at h1 <;> split at h2 <;> first | omega | (cases h1; done) | (cases h2; done)

theorem ro_heap1 {B : Nat} {n : Nat} {c : T Value} {e : TypeId} : ∀ b pl, emb1 B b = some pl → b < (heap1 (.ro n c e)).lo ∧ ∃ o, (heap1 (.ro n c e)).bl.get b = some o ∧ o.live := by
  intro b pl h
  unfold emb1 at h
  split at h
  · rename_i h0; subst h0
    exact ⟨by show 0 < 1; omega, _, T.get_upd_same _ _ _, trivial⟩
  · cases h

theorem has_ro (o : Nat) (vs : List Value) (e : TypeId) : Has (some (.ro (o + vs.length) (lay vs .nil o) e)) o vs :=
  ⟨_, _, e, .inl rfl, Nat.le_refl _, fun j v hj => by
    rw [get_lay']
    have := (List.getElem?_eq_some_iff.1 hj).1
    rw [if_pos ⟨by omega, by omega⟩, show o + j - o = j by omega]; exact hj⟩

/-- a law of a slice that came in, and scalars ahead of it and behind -/
theorem law_slice {f : FuncId} {pre post : List Value} {v : Value} {L : List α} {w : World} (hpre : pre.all scal = true) (hpost : post.all scal = true) (hone : ∀ a : α, (encA a).all scal1 = true) (hv : ArgIs encA w v L)
    (hc : ∀ (h : Heap) (u : Value), Sl encA h u L → h.lo ≤ h.nx → CallW P f (pre ++ [u] ++ post) h IsTrue) :
    Calls P f (pre ++ [v] ++ post).toArray w fun e w' => e = .returned (.bool true) ∧ Below w.heap.size w w' := by
  have args : ∀ {φ : Emb} {u : Value}, VR φ u v → F2 (VR φ) (pre ++ [u] ++ post) (pre ++ [v] ++ post) := fun hu => ((scals_VR hpre).append (.cons hu .nil)).append (scals_VR hpost)
  have none_ro : ∀ b pl, emb0 b = some pl → b < heap0.lo ∧ ∃ o, heap0.bl.get b = some o ∧ o.live := fun b pl h => by cases h
  rcases hv with ⟨rfl, rfl | ⟨a, cap, rfl⟩⟩ | ⟨B, o, cap, C, e, fz, rfl, hl, hm, hC, hle, hcell⟩
  · exact lawEndB (hc heap0 _ (Sl.nil _ _ _) (Nat.le_refl _)) (args (VR.sliceNil (Nat.le_refl _))) (hr_heap0 w) none_ro
  · exact lawEndB (hc heap0 _ (Sl.nil _ (some a) anyCap) (Nat.le_refl _)) (args (VR.sliceAny a a cap)) (hr_heap0 w) none_ro
  · have hsc : (L.flatMap encA).all scal1 = true := by
      rw [List.all_flatMap]; simp only [List.all_eq_true]; intro x _; exact List.all_eq_true.1 (hone x)
    refine lawEndB (φ := emb1 B) (hc (heap1 (.ro (o + (L.flatMap encA).length) (lay (L.flatMap encA) .nil o) e)) (.slice (some ⟨0, o, none⟩) L.length cap) ⟨_, cap, rfl, fun _ => ⟨0, o, rfl, by show 0 < 1; omega, ?_⟩⟩ (by show 1 ≤ 1; omega)) (args ?_) (hr_heap1 hC hle hcell hsc) ro_heap1
    · show Has ((T.nil.upd 0 _).get 0) o _
      rw [T.get_upd_same]; exact has_ro _ _ _
    · have hpl : emb1 B 0 = some ⟨B, 0, 0⟩ := rfl
      exact VR.slice hpl hl (by unfold maxLen at hm; unfold openCap; omega)
end

/-! ## the row's end -/
section
variable {H : Type} {enc : TypeId × Value → H}
theorem post_of_law {f : Func} {s : ChangeSpec} {apart fresh handsOn again : Bool} {W W' : World} {args : Array Value} {v : Value} {ds gs : List (DataW H)} {before pa pv : List MemPlace}
    (hW : DataW.Whole enc P f.params.toList s.vars apart W args.toList ds gs before)
    (hres : ∀ (b : Nat) (sp : Nat → Bool) (hd : Bool), DataW.TrodAll enc P W' b sp hd f.resultTypes.toList (v.resultList f.resultTypes.size) (s.fn H (ds ++ gs)).results [])
    (hargs : ∀ sp : Nat → Bool, (∀ p ∈ before, sp p.block = true) → DataW.TrodAll enc P W' 0 sp true f.params.toList args.toList (s.fn H (ds ++ gs)).args pa)
    (hvars : ∀ sp : Nat → Bool, (∀ p ∈ before, sp p.block = true) → DataW.TrodVars enc P W' sp s.vars (s.fn H (ds ++ gs)).vars pv)
    (hps : before = pa ++ pv) (hb : Below W.heap.size W W')
    (hok : ∀ (j : Nat) (t : TypeId) (r : Value), f.resultTypes[j]? = some t → (v.resultList f.resultTypes.size)[j]? = some r → Value.okWide P W' .any 0 t r) :
    s.post enc P f apart fresh handsOn again W args v W' := by
  have hlt : ∀ p ∈ before, p.block < W.heap.size := fun p hp => hW.lt p hp
  have hold : ∀ p ∈ before, (fun b => decide (b < W.heap.size)) p.block = true := fun p hp => by simpa using hlt p hp
  refine ⟨ds, gs, before, [], pa, pv, hW, hres _ _ _, hargs _ hold, hvars _ hold, World.keptBut_mono (fun p hp => ⟨hp, ?_⟩) (hb.frame (· ∈ before)), fun _ => ?_⟩
  · rw [hps, List.mem_append] at hp
    exact Or.inr hp
  · obtain ⟨_, _, _, _, _, hz, hn⟩ := hW
    refine ⟨hok, _, _, ([] ++ pa) ++ pv, ⟨[] ++ pa, pv, trodAll_append (hargs _ (fun _ _ => rfl)) (hres _ _ _), hvars _ (fun _ _ => rfl), rfl, ?_, ?_⟩, ?_⟩
    · intro b off hp
      have hin : MemPlace.cell b off ∈ before := by rw [hps]; simpa using hp
      rw [hb.frozen (hlt _ hin)]
      exact hz b off hin
    · intro ha
      have := hn ha
      rw [hps] at this
      simpa using this
    · intro p hp _
      rw [hps]
      simpa using hp
/-- an argument reads as it read -/
theorem arg_stays {t : TypeId} (hl : laidOutB P = true) (hr : P.readableRec t = true) (hrow : t < P.types.size) {W W' : World} {v : Value} {d : DataW H} {ps : List MemPlace}
    (h : DataW.Trod enc P W 0 (fun _ => true) true t v d ps) (hb : Below W.heap.size W W') (hlt : ∀ x ∈ ps, x.block < W.heap.size) {sp : Nat → Bool} (hsp : ∀ x ∈ ps, sp x.block = true) :
    DataW.Trod enc P W' 0 sp true t v d ps :=
  WideElems.Trod_stays hl hr hrow h (fun x hx => hb.same (hlt x hx)) (fun x hx => by simpa using hsp x hx)
end
end Go.Vai

namespace Go.Vai
open Go Go.RowKit
variable {P : Program}
/-- a call of scalars that comes to a scalar, on a heap of nothing: so on whatever heap, which stays -/
theorem pureW {f : FuncId} {args : List Value} {v : Value} (ha : args.all scal = true) (hv : scal v = true) (hc : CallW P f args heap0 fun u _ => u = v) {h : Heap} {κ : Value → Heap → Prop} (hk : κ v h) : CallW P f args h κ := by
  intro φ w args' hf hr
  have := of_scals ha hf
  subst this
  obtain ⟨c1, c2⟩ := hc emb0 w args' (scals_VR ha) (hr_heap0 w)
  refine ⟨c1, c2.mono ?_⟩
  rintro e w' ⟨φ', v1, v', h', rfl, rfl, g2, g3, g4⟩
  have hfr : ∀ B, B < w.heap.size → w'.heap[B]? = w.heap[B]? := fun B hB => g4.frC B hB fun b pl e => by cases e
  refine ⟨φ, v1, v', h, rfl, hk, by rw [of_scal_VR hv g2]; exact scal_VR hv, ?_, ?_⟩
  · exact ⟨fun b o pl h1 h2 => by rw [hfr _ (hr.dom b pl h2).2]; exact hr.obj b o pl h1 h2, fun b pl h1 => ⟨(hr.dom b pl h1).1, Nat.lt_of_lt_of_le (hr.dom b pl h1).2 g4.size⟩, hr.keys, hr.nxs, hr.inj, hr.lo⟩
  · exact ⟨Sub.refl φ, fun b pl e e' => (by rw [e] at e'; cases e'), Nat.le_refl _, g4.size, fun B hB _ => hfr B hB, fun _ _ _ => rfl, g4.tape, g4.os, g4.output, fun _ _ => trivial, rfl, fun _ _ => rfl, fun b o pl _ _ _ _ hB => hfr _ hB⟩

theorem reV_some (u v : Value) : reV (some u) v = veq 8 u v := id rfl
theorem repeatL_0 (zs : List Value) : repeatL zs 0 = [] := id rfl
theorem repeatL_2 (a : Value) : repeatL [a] 2 = [a, a] := by simp [repeatL]
theorem over_1_1 (a b c : Value) : over [a, b] 0 [c] = [c, b] := by simp [over]
theorem over_1_2 (a b c : Value) : over [a, b] 1 [c] = [a, c] := by simp [over]
theorem over_s (a : Value) (l : List Value) (n : Nat) (ws : List Value) : over (a :: l) (n + 1) ws = a :: over l n ws := by simp [over, Nat.add_right_comm]
theorem over_0 (a w : Value) (l ws : List Value) : over (a :: l) 0 (w :: ws) = w :: over l 0 ws := by simp [over]
theorem over_e (l : List Value) : over l 0 [] = l := by simp [over]
theorem reN_some (u : Value) : reN (some u) = true := id rfl
theorem reG_true (r : Bool) : reG true r = r := id rfl
theorem reG_false (r : Bool) : reG false r = true := id rfl
theorem beq_self_t (n : Nat) : Nat.beq n n = true := Nat.beq_refl n
theorem ieqB_self (n : Int) : ieqB n n = true := by rw [ieqB_eq]; simp
theorem kindEq_self (k : IntKind) : kindEq k k = true := by rw [kindEq_eq]; simp
theorem veqI (n : Nat) (k : IntKind) (a : Int) : veq (n + 1) (.int k a) (.int k a) = true := by unfold veq; simp [kindEq_self, ieqB_self]
theorem veq_int (k : IntKind) (a : Int) : veq 8 (.int k a) (.int k a) = true := veqI 7 k a
theorem veq_bool (a : Bool) : veq 8 (.bool a) (.bool a) = true := by unfold veq; simp
theorem veq_ptr (b o : Nat) : veq 8 (.pointer (some ⟨b, o, none⟩)) (.pointer (some ⟨b, o, none⟩)) = true := by unfold veq; simp [beq_self_t]
theorem veq_sli (b o n c : Nat) : veq 8 (.slice (some ⟨b, o, none⟩) n c) (.slice (some ⟨b, o, none⟩) n c) = true := by unfold veq; simp [beq_self_t]
theorem veq_sln (n c : Nat) : veq 8 (.slice none n c) (.slice none n c) = true := by unfold veq; simp [beq_self_t]
theorem veqL_ints (n : Nat) (l : List Int) : veqL (veq (n + 1)) (l.map (Value.int .i64)) (l.map (Value.int .i64)) = true := by
  induction l with
  | nil => rfl
  | cons a l ih => simp only [List.map_cons, veqL, veqI, ih, Bool.and_self]
theorem veq_ints (l : List Int) : veq 8 (.agg ⟨l.map (.int .i64)⟩) (.agg ⟨l.map (.int .i64)⟩) = true := by
  unfold veq; exact veqL_ints 6 l
theorem veq_2 (a b : Int) : veq 8 (.agg ⟨[.int .i64 a, .int .i64 b]⟩) (.agg ⟨[.int .i64 a, .int .i64 b]⟩) = true := veq_ints [a, b]
theorem veq_4 (a b c d : Int) : veq 8 (.agg ⟨[.int .i64 a, .int .i64 b, .int .i64 c, .int .i64 d]⟩) (.agg ⟨[.int .i64 a, .int .i64 b, .int .i64 c, .int .i64 d]⟩) = true := veq_ints [a, b, c, d]
end Go.Vai

namespace Go.Vai
open Go
variable {β : Type} {fl : β}
/-! ## parts of a slice whose block is open -/
theorem numK_nat (n : Nat) (d : Nat) (κ : Nat → β) : numK fl (some (.int .i64 (n : Int))) d κ = κ n := id rfl
theorem numK_none (d : Nat) (κ : Nat → β) : numK fl none d κ = κ d := id rfl
/-- from an index on: of an open slice whose block is full -/
theorem slice_from {h : Heap} {e s b n i : Nat} {vs : List Value} (hs : 0 < s) (hb : h.bl.get b = some (cellsO vs e true)) (hvs : vs.length = n * s) (hi : i < n) (κ : Value → Heap → β) :
    sliceB fl e s (.slice (some ⟨b, 0, none⟩) n openCap) (some (.int .i64 (i : Int))) none none h κ = κ (.slice (some ⟨b, i * s, none⟩) (n - i) openCap) h := by
  obtain ⟨s, rfl⟩ : ∃ k, s = k + 1 := ⟨s - 1, by omega⟩
  have hk : knownOf h e b = some (n * (s + 1)) := by unfold knownOf; rw [hb]; simp only [cellsO, beq_self_t, hvs]
  have hd : Nat.div (Nat.sub (n * (s + 1)) 0) (s + 1) = n := by show (n * (s + 1) - 0) / (s + 1) = n; rw [Nat.sub_zero, Nat.mul_div_cancel _ (by omega)]
  have e1 : Nat.beq openCap anyCap = false := by decide
  have e2 : Nat.beq openCap openCap = true := Nat.beq_refl _
  have e3 : Nat.ble 0 (n * (s + 1)) = true := Nat.ble_eq_true_of_le (Nat.zero_le _)
  have e4 : Nat.ble i n = true := Nat.ble_eq_true_of_le (by omega)
  have e5 : Nat.ble n n = true := Nat.ble_eq_true_of_le (Nat.le_refl _)
  have e6 : Nat.beq i n = false := by
    cases hq : Nat.beq i n with
    | false => rfl
    | true => have := beq_t hq; omega
  unfold sliceB boundsB
  simp only [e1, e2, hk, e3, hd, numK_nat, numK_none, e4, e5, e6, fnK_eq]
  show κ (.slice (some ⟨b, 0 + i * (s + 1), none⟩) (n - i) openCap) h = _
  rw [Nat.zero_add]
/-- up to an index -/
theorem slice_to {h : Heap} {e s b n m i : Nat} {vs : List Value} (hs : 0 < s) (hb : h.bl.get b = some (cellsO vs e true)) (hvs : vs.length = n * s) (hn : 0 < n) (hi : i ≤ n) (κ : Value → Heap → β) :
    sliceB fl e s (.slice (some ⟨b, 0, none⟩) m openCap) none (some (.int .i64 (i : Int))) none h κ = κ (.slice (some ⟨b, 0, none⟩) i openCap) h := by
  obtain ⟨s, rfl⟩ : ∃ k, s = k + 1 := ⟨s - 1, by omega⟩
  have hk : knownOf h e b = some (n * (s + 1)) := by unfold knownOf; rw [hb]; simp only [cellsO, beq_self_t, hvs]
  have hd : Nat.div (Nat.sub (n * (s + 1)) 0) (s + 1) = n := by show (n * (s + 1) - 0) / (s + 1) = n; rw [Nat.sub_zero, Nat.mul_div_cancel _ (by omega)]
  have e1 : Nat.beq openCap anyCap = false := by decide
  have e2 : Nat.beq openCap openCap = true := Nat.beq_refl _
  have e3 : Nat.ble 0 (n * (s + 1)) = true := Nat.ble_eq_true_of_le (Nat.zero_le _)
  have e4 : Nat.ble 0 i = true := Nat.ble_eq_true_of_le (Nat.zero_le _)
  have e5 : Nat.ble i n = true := Nat.ble_eq_true_of_le hi
  have e6 : Nat.beq 0 n = false := by
    cases hq : Nat.beq 0 n with
    | false => rfl
    | true => have := beq_t hq; omega
  unfold sliceB boundsB
  simp only [e1, e2, hk, e3, hd, numK_nat, numK_none, e4, e5, e6, fnK_eq]
  show κ (.slice (some ⟨b, 0 + 0 * (s + 1), none⟩) (i - 0) openCap) h = _
  rw [Nat.zero_mul, Nat.sub_zero]
theorem clear_cells {h : Heap} {b o n c e : Nat} {op : Bool} {vs zero : List Value} (hb : h.bl.get b = some (cellsO vs e op)) (hn : 0 < n) (hl : o + (repeatL zero n).length ≤ vs.length) (h1 : (repeatL zero n).all oneC = true) (hlo : h.lo ≤ b) (κ : Value → Heap → β) :
    clearB fl zero (.slice (some ⟨b, o, none⟩) n c) h κ = κ (.tuple #[]) ⟨h.nx, h.bl.upd b (cellsO (over vs o (repeatL zero n)) e op), h.lo⟩ := by
  obtain ⟨n, rfl⟩ : ∃ k, n = k + 1 := ⟨n - 1, by omega⟩
  unfold clearB
  simp only [hb, cellsO]
  rw [storeN_eq _ _ _ _ _ hl h1, setBlock_eq _ _ _ _ hlo, lay_lay _ _ _ hl, over_length hl]
end Go.Vai

namespace Go.Vai
open Go Go.RowKit Go.WideShapes Go.ChangeShapes
section
variable {P : Program} {α : Type} {encA : α → List Value} {s : Nat} {H : Type} {enc : TypeId × Value → H}
theorem open_sliceArg {W : World} {t e : TypeId} {v : Value} {d : DataW H} {p : List MemPlace} {base : Nat} (he : ∀ a : α, (encA a).length = s) (hs : 0 < s) (ht : P.underlying t = some (.slice e)) (hc : P.cellsOf e = s)
    (hdec : ∀ (n : Nat) (cs : List Value) (d : DataW H × List MemPlace), cs.length = s → DataW.trod enc P W 0 (fun _ => true) true n e cs = some d → ∃ a : α, cs = encA a)
    (hw : Value.okWide P W .any base t v) (h : DataW.Trod enc P W 0 (fun _ => true) true t v d p) : ∃ L : List α, ArgIs encA W v L := by
  obtain ⟨fuel, hf⟩ := h
  have hcs : v.cells.toList = [v] := by
    unfold Value.okWide at hw
    rw [ht] at hw
    simp only at hw
    unfold Cell.okWide Cell.ok at hw
    rw [ht] at hw
    cases v <;> first | rfl | (simp at hw)
  rw [hcs] at hf
  exact open_arg he hs ht hc hdec hf
end
end Go.Vai
