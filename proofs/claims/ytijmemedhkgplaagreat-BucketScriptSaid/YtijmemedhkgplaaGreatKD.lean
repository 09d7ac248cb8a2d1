/-
  PROVED HERE: a part of the proof, by a calculus of weakest conditions over an abstract heap (K27, K28, K29).
-/
import Derived.Test.YtijmemedhkgplaaGreatKC
import Derived.Test.YtijmemedhkgplaaGreatV5
set_option linter.unusedVariables false
set_option linter.unusedSimpArgs false
set_option maxRecDepth 100000
namespace Go.Proofs
open Go.Vai Go.Clashes
abbrev fK : FuncId := 112
abbrev fA : FuncId := 124
def skipN (f : FuncId) : Bool := Nat.beq f fK || Nat.beq f fA
noncomputable abbrev pN : Prims Prop := prK Tryz.prog skipN
noncomputable abbrev RN (n : Nat) : Rec Prop := run False pN Tryz.prog n
noncomputable def cK : Code := codeAt Tryz.prog fK
noncomputable def cA : Code := codeAt Tryz.prog fA
noncomputable def kA : Code := seqL cK
noncomputable def kL : Code := inC (inC (seqR cK))
noncomputable def kB : Code := seqL kL
noncomputable def kBody : Code := inC (seqR (seqR kL))
noncomputable def kC : Code := seqL kBody
noncomputable def kD : Code := seqL (seqR kBody)
theorem cK_eq : cK = .seq kA (.block 0 (.loop (.seq kB (.seq (.cond (.tmp 7) .skip (.exit 0)) (.block 1 (.seq kC (.seq kD (.cond (.tmp 13) .ret .skip)))))))) := by kernel_rfl
noncomputable def aA : Code := seqL cA
noncomputable def aB : Code := seqL (seqL (seqR cA))
noncomputable def aR : Code := inC (seqR (seqL (seqR cA)))
noncomputable def aP : Code := rfA aR
noncomputable def aQ : Code := inC (rfB aR)
noncomputable def aC : Code := seqL (seqR (seqR cA))
theorem cA_eq : cA = .seq aA (.seq (.seq aB (.block 0 (.rangeFunc (.tmp 6) #[7] aP (.block 1 aQ)))) (.seq aC .ret)) := by kernel_rfl
variable (rec : Rec Prop) (tm : T Value) (h : Heap)
theorem rkA (κ : Ex → T Value → Heap → Prop) : body False pN Tryz.prog rec kA tm h κ =
    ev tm (.tmp 1) fun x => load1 False x h fun v h => T.set tm 4 v fun tm => ev tm (.tmp 4) fun x => rangeB False x h fun v h => T.set tm 5 v fun tm => κ .normal tm h := by kernel_rfl
theorem rkB (κ : Ex → T Value → Heap → Prop) : body False pN Tryz.prog rec kB tm h κ =
    ev tm (.tmp 5) fun x => nextB False And x h fun v h => T.set tm 6 v fun tm => ev tm (.tmp 6) fun x => extractB False 0 x h fun v h => T.set tm 7 v fun tm => κ .normal tm h := by kernel_rfl
theorem rkC (κ : Ex → T Value → Heap → Prop) : body False pN Tryz.prog rec kC tm h κ =
    ev tm (.tmp 5) fun x => entryB False x h fun v h => T.set tm 8 v fun tm => ev tm (.tmp 8) fun x => extractB False 0 x h fun v h => T.set tm 9 v fun tm =>
      newBlock False (cellsO [.int .i64 0, .int .i64 0] 38 false) h fun b h => T.set tm 3 (ptrTo b) fun tm => ev tm (.tmp 3) fun a => ev tm (.tmp 9) fun v => storeV False 2 a v h fun v h => κ .normal tm h := by kernel_rfl
theorem rkD (κ : Ex → T Value → Heap → Prop) : body False pN Tryz.prog rec kD tm h κ =
    ev tm (.tmp 0) fun fv => T.set tm 10 fv fun tm => ev tm (.tmp 3) fun x => loadA False 2 x h fun v h => T.set tm 11 v fun tm =>
      ev tm (.tmp 11) fun x => ev tm (.tmp 10) fun fv => callV False pN Tryz.prog rec fv [x] h fun v h => T.set tm 12 v fun tm => ev tm (.tmp 12) fun x => unB False .not x h fun v h => T.set tm 13 v fun tm => κ .normal tm h := by kernel_rfl
theorem rkAA (κ : Ex → T Value → Heap → Prop) : body False pN Tryz.prog rec aA tm h κ =
    ev tm (.tmp 0) fun s => cellsK False (Value.cells s).toList 83 false fun o => newBlock False o h fun b h => T.set tm 2 (ptrTo b) fun tm => T.set tm 4 (.slice none 0 0) fun tm => κ .normal tm h := by kernel_rfl
theorem rkAB (κ : Ex → T Value → Heap → Prop) : body False pN Tryz.prog rec aB tm h κ = ev tm (.tmp 1) fun g => T.set tm 6 g fun tm => κ .normal tm h := by kernel_rfl
theorem rkAP (κ : Ex → T Value → Heap → Prop) : body False pN Tryz.prog rec aP tm h κ =
    newBlock False (cellsO [.int .i64 0, .int .i64 0] 38 false) h fun b h => T.set tm 5 (ptrTo b) fun tm => ev tm (.tmp 5) fun a => ev tm (.tmp 7) fun v => storeV False 2 a v h fun v h => κ .normal tm h := by kernel_rfl
theorem rkAQ (κ : Ex → T Value → Heap → Prop) : body False pN Tryz.prog rec aQ tm h κ =
    ev tm (.tmp 2) fun x => load1 False x h fun v h => T.set tm 8 v fun tm => ev tm (.tmp 5) fun x => loadA False 2 x h fun v h => T.set tm 9 v fun tm =>
      ev tm (.tmp 9) fun v => fillB False [(0, 2)] [v] [.int .i64 0, .int .i64 0] fun cs => cellsK False cs 38 false fun o => newBlock False o h fun b h => T.set tm 10 (sliceTo 1 1 b) fun tm =>
      ev tm (.tmp 8) fun s => ev tm (.tmp 10) fun x => appendB False 38 2 [.int .i64 0, .int .i64 0] false s x h fun v h => T.set tm 11 v fun tm => ev tm (.tmp 2) fun a => ev tm (.tmp 11) fun v => storeV False 1 a v h fun v h => κ .normal tm h := by kernel_rfl
theorem rkAC (κ : Ex → T Value → Heap → Prop) : body False pN Tryz.prog rec aC tm h κ =
    ev tm (.tmp 2) fun x => load1 False x h fun v h => T.set tm 12 v fun tm => ev tm (.tmp 12) fun v => T.set tm 4 v fun tm => κ .normal tm h := by kernel_rfl
theorem callA (s g : Value) (κ : Value → Heap → Prop) : callF False pN Tryz.prog rec fA [s, g] h κ = rec cA (lay [s, g] .nil 0) h (endK False [.tmp 4] κ) := by kernel_rfl
theorem callK (y m : Value) (κ : Value → Heap → Prop) : callF False pN Tryz.prog rec fK [y, m] h κ = rec cK (lay [y, m] .nil 0) h (endK False [] κ) := by kernel_rfl
end Go.Proofs

namespace Go.Proofs
open Go.Vai Go.Clashes
theorem tm_same (t : T Value) (n : Nat) (v : Value) : tmv (t.upd n v) n = v := by unfold tmv; rw [T.get_upd_same]
theorem tm_ne (t : T Value) {n m : Nat} (v : Value) (h : n ≠ m) : tmv (t.upd n v) m = tmv t m := by unfold tmv; rw [T.get_updne _ _ h]
theorem ev_tmp {β : Type} (tm : T Value) (t : Nat) (κ : Value → β) : ev tm (.tmp t) κ = κ (tmv tm t) := ev_eq _ _ _
section
variable (n : Nat) (a b : Code) (tm : T Value) (h : Heap) (κ : Ex → T Value → Heap → Prop)
theorem R_seq : RN (n + 1) (.seq a b) tm h κ = RN n a tm h (seqK (RN n) b κ) := id rfl
theorem R_cond (t : Nat) : RN (n + 1) (.cond (.tmp t) a b) tm h κ = condK False (RN n) a b tm h κ (tmv tm t) := ev_eq tm (.tmp t) (condK False (RN n) a b tm h κ)
theorem R_block (i : Nat) : RN (n + 1) (.block i a) tm h κ = RN n a tm h (blockK i κ) := id rfl
theorem R_loop : RN (n + 1) (.loop a) tm h κ = RN n a tm h (seqK (RN n) (.loop a) κ) := id rfl
theorem R_exit (i : Nat) : RN (n + 1) (.exit i) tm h κ = κ (.exit i) tm h := id rfl
theorem R_ret : RN (n + 1) .ret tm h κ = κ .ret tm h := id rfl
theorem R_skip : RN (n + 1) .skip tm h κ = κ .normal tm h := id rfl
theorem R_rf (t : Nat) (ps : Array Tmp) : RN (n + 1) (.rangeFunc (.tmp t) ps a b) tm h κ = rangeFuncB False pN Tryz.prog (RN n) ps.toList a b tm h κ (tmv tm t) := ev_eq tm (.tmp t) (rangeFuncB False pN Tryz.prog (RN n) ps.toList a b tm h κ)
theorem R_kA : RN (n + 1) kA tm h κ = body False pN Tryz.prog (RN n) kA tm h κ := id rfl
theorem R_kB : RN (n + 1) kB tm h κ = body False pN Tryz.prog (RN n) kB tm h κ := id rfl
theorem R_kC : RN (n + 1) kC tm h κ = body False pN Tryz.prog (RN n) kC tm h κ := id rfl
theorem R_kD : RN (n + 1) kD tm h κ = body False pN Tryz.prog (RN n) kD tm h κ := id rfl
theorem R_aA : RN (n + 1) aA tm h κ = body False pN Tryz.prog (RN n) aA tm h κ := id rfl
theorem R_aB : RN (n + 1) aB tm h κ = body False pN Tryz.prog (RN n) aB tm h κ := id rfl
theorem R_aP : RN (n + 1) aP tm h κ = body False pN Tryz.prog (RN n) aP tm h κ := id rfl
theorem R_aQ : RN (n + 1) aQ tm h κ = body False pN Tryz.prog (RN n) aQ tm h κ := id rfl
theorem R_aC : RN (n + 1) aC tm h κ = body False pN Tryz.prog (RN n) aC tm h κ := id rfl
theorem sK_n (rec : Rec Prop) : seqK rec b κ .normal tm h = rec b tm h κ := id rfl
theorem sK_e (rec : Rec Prop) (i : Nat) : seqK rec b κ (.exit i) tm h = κ (.exit i) tm h := id rfl
theorem sK_r (rec : Rec Prop) : seqK rec b κ .ret tm h = κ .ret tm h := id rfl
theorem bK_n (i : Nat) : blockK i κ .normal tm h = κ .normal tm h := id rfl
theorem bK_r (i : Nat) : blockK i κ .ret tm h = κ .ret tm h := id rfl
theorem bK_e0 : blockK 0 κ (.exit 0) tm h = κ .normal tm h := id rfl
theorem cK_t (rec : Rec Prop) : condK False rec a b tm h κ (.bool true) = rec a tm h κ := id rfl
theorem cK_f (rec : Rec Prop) : condK False rec a b tm h κ (.bool false) = rec b tm h κ := id rfl
end
noncomputable abbrev loopC : Code := .seq kB (.seq (.cond (.tmp 7) .skip (.exit 0)) (.block 1 (.seq kC (.seq kD (.cond (.tmp 13) .ret .skip)))))
noncomputable abbrev loopB (st : LoopState) (tmA : T Value) : AObj := .loop st none tmA [7] aP (.block 1 aQ)
def encN (p : Int × Int) : List Value := [.int .i64 p.1, .int .i64 p.2]
theorem encN_len (p : Int × Int) : (encN p).length = 2 := rfl
theorem encN_one (p : Int × Int) : (encN p).all oneC = true := rfl
def nmOf (e : HE) : Int × Int := (e.t, e.r)
abbrev OwnN (a h : Heap) (v : Value) (L : List (Int × Int)) : Prop := Own encN a 38 h v L
structure KInv (a : Heap) (bm : Nat) (clock : Nat) (M : List HE) (tmA : T Value) (seen : List Nat) (tm : T Value) (h1 : Heap) (v : Value) (L : List HE) : Prop where
  le : Le a h1
  nx : a.nx + 3 ≤ h1.nx
  gs : h1.bl.get a.nx = some (cellsO [v] 83 false)
  gl : h1.bl.get (a.nx + 1) = some (loopB .ready tmA)
  gi : h1.bl.get (a.nx + 2) = some (.miter (some bm) clock seen clock)
  own : OwnN a h1 v (L.map nmOf)
  perm : L.Perm (M.filter fun e => seen.any (Nat.beq e.born))
  t0 : tmv tm 0 = .func (.yield (a.nx + 1)) #[] #[]
  t5 : tmv tm 5 = ptrTo (a.nx + 2)
theorem call_y (rec : Rec Prop) (l : Nat) (x : Value) (h : Heap) (κ : Value → Heap → Prop) : callV False pN Tryz.prog rec (.func (.yield l) #[] #[]) [x] h κ = roundB False rec l [x] h κ := id rfl
theorem round_eq {rec : Rec Prop} {l : Nat} {x : Value} {h : Heap} {κ : Value → Heap → Prop} {st : LoopState} {tmA : T Value} (hl : h.bl.get l = some (loopB st tmA)) : roundB False rec l [x] h κ = rec aP (tmA.upd 7 x) h (beginRoundK False rec l (.block 1 aQ) κ) := by
  unfold roundB
  simp only [hl, List.length_cons, List.length_nil]
  show layAt [7] [x] tmA _ = _
  unfold layAt
  rw [T.set_eq]
  unfold layAt
  rfl
theorem begin_eq {rec : Rec Prop} {l : Nat} {bd : Code} {tm : T Value} {h : Heap} {κ : Value → Heap → Prop} {tmA : T Value} (hl : h.bl.get l = some (loopB .ready tmA)) (hlo : h.lo ≤ l) : beginRoundK False rec l bd κ .normal tm h = rec bd tm ⟨h.nx, h.bl.upd l (loopB .busy tmA), h.lo⟩ (endRoundK False l κ) := by
  unfold beginRoundK
  simp only [hl, setBlock_eq _ _ _ _ hlo]
theorem end_eq {l : Nat} {tm : T Value} {h : Heap} {κ : Value → Heap → Prop} {st : LoopState} {tmA : T Value} (hl : h.bl.get l = some (loopB st tmA)) (hlo : h.lo ≤ l) : endRoundK False l κ .normal tm h = κ (.bool true) ⟨h.nx, h.bl.upd l (loopB .ready tmA), h.lo⟩ := by
  unfold endRoundK
  simp only [hl, setBlock_eq _ _ _ _ hlo]
theorem seen_more {M : List HE} {clock : Nat} (o : MapOk M clock) {e : HE} (he : e ∈ M) {seen : List Nat} (hn : seen.any (Nat.beq e.born) = false) : (M.filter fun x => (e.born :: seen).any (Nat.beq x.born)).Perm (M.filter (fun x => seen.any (Nat.beq x.born)) ++ [e]) := by
  have hnd : M.Nodup := o.bn.imp fun h e => h (by rw [e])
  refine (List.perm_ext_iff_of_nodup (hnd.filter _) ?_).2 fun x => ?_
  · rw [List.nodup_append]
    refine ⟨hnd.filter _, by simp, fun x hx y hy => ?_⟩
    rw [List.mem_singleton] at hy; subst hy
    rintro rfl
    rw [List.mem_filter, hn] at hx
    exact absurd hx.2 (by simp)
  · rw [List.mem_filter, List.mem_append, List.mem_filter, List.mem_singleton, List.any_cons, Bool.or_eq_true]
    constructor
    · rintro ⟨h1, h2 | h2⟩
      · exact .inr (o.uniqB h1 he (Nat.eq_of_beq_eq_true h2))
      · exact .inl ⟨h1, h2⟩
    · rintro (⟨h1, h2⟩ | rfl)
      · exact ⟨h1, .inr h2⟩
      · exact ⟨he, .inl (Nat.beq_refl _)⟩
theorem keys_loop (a : Heap) (bm clock : Nat) (M : List HE) (tmA : T Value) (o : MapOk M clock) (g : a.bl.get bm = some (.map (M.map toH) clock)) (hbm : bm < a.nx) (hlo : a.lo ≤ a.nx) (hM : M.length ≤ 1000) (hA : tmv tmA 2 = ptrTo a.nx) (κ : Ex → T Value → Heap → Prop)
    (hk : ∀ (tm : T Value) (h1 : Heap) (v : Value) (L : List HE), L.Perm M → OwnN a h1 v (L.map nmOf) → Le a h1 → a.nx + 3 ≤ h1.nx → h1.bl.get a.nx = some (cellsO [v] 83 false) → h1.bl.get (a.nx + 1) = some (loopB .ready tmA) → κ (.exit 0) tm h1) :
    ∀ (k : Nat) (seen : List Nat) (tm : T Value) (h1 : Heap) (v : Value) (L : List HE), unseen M seen ≤ k → KInv a bm clock M tmA seen tm h1 v L → RN (k + 12) (.loop loopC) tm h1 κ := by
  have step : ∀ (k : Nat) (seen : List Nat) (tm : T Value) (h1 : Heap) (v : Value) (L : List HE), KInv a bm clock M tmA seen tm h1 v L →
      (∀ e ∈ M, seen.any (Nat.beq e.born) = false → ∀ (tm : T Value) (h1 : Heap) (v : Value) (L : List HE), KInv a bm clock M tmA (e.born :: seen) tm h1 v L → RN (k + 11) (.loop loopC) tm h1 κ) → RN (k + 12) (.loop loopC) tm h1 κ := by
    intro k seen tm h1 v L I hnext
    have n1 := I.nx
    have l1 := I.le.lo
    have gm := (I.le.get bm hbm).trans g
    rw [show k + 12 = k + 11 + 1 from by omega, R_loop]
    simp(disch:=first|omega|(simp only[Wx];done)|(simp only[Wy];done)|(simp only[Wv];omega)|with_unfolding_all rfl)only[Wz,ptrTo,sliceTo, R_seq, R_kB, rkB, ev_tmp, T.set_eq, tm_same, tm_ne, sK_n, sK_e, sK_r, bK_n, bK_r, bK_e0, I.t5]
    refine next_w o I.gi gm (by omega) _ ?_ ?_
    · intro hall
      simp(disch:=first|omega|(simp only[Wx];done)|(simp only[Wy];done)|(simp only[Wv];omega)|with_unfolding_all rfl)only[Wz,ptrTo,sliceTo, R_cond, tm_same, cK_f, R_exit, sK_e]
      have hf : M.filter (fun e => seen.any (Nat.beq e.born)) = M := List.filter_eq_self.2 hall
      exact hk _ h1 v L (hf ▸ I.perm) I.own I.le n1 I.gs I.gl
    · intro e he hns
      obtain ⟨h2, e2⟩ : ∃ h2 : Heap, h2 = ⟨h1.nx, h1.bl.upd (a.nx + 2) (.miter (some bm) clock (e.born :: seen) clock), h1.lo⟩ := ⟨_, rfl⟩
      have le2 : Le a h2 := by rw [e2]; exact I.le.set (by omega) _
      have n2 : h2.nx = h1.nx := by rw [e2]
      have l2 : h2.lo = h1.lo := by rw [e2]
      have gi2 : h2.bl.get (a.nx + 2) = some (.miter (some bm) clock (e.born :: seen) clock) := by rw [e2]; exact T.get_upd_same _ _ _
      have gs2 : h2.bl.get a.nx = some (cellsO [v] 83 false) := by rw [e2]; exact (T.get_updne _ _ (by omega)).trans I.gs
      have gl2 : h2.bl.get (a.nx + 1) = some (loopB .ready tmA) := by rw [e2]; exact (T.get_updne _ _ (by omega)).trans I.gl
      have ho2 : OwnN a h2 v (L.map nmOf) := by rw [e2]; exact Own.put I.own (by rw [I.gi]; intro hc; unfold cellsO at hc; cases hc) _
      rw [← e2]
      clear e2
      have gm2 := (le2.get bm hbm).trans g
      simp(disch:=first|omega|(simp only[Wx];done)|(simp only[Wy];done)|(simp only[Wv];omega)|with_unfolding_all rfl)only[Wz,ptrTo,sliceTo, R_cond, R_skip, R_seq, R_block, tm_same, tm_ne, cK_t, R_exit, sK_n, R_kC, rkC, ev_tmp, T.set_eq, I.t5, entry_w o he gi2 gm2, nmV, R_kD, rkD, I.t0]
      have n3 : a.nx + 3 ≤ h2.nx := by omega
      obtain ⟨h3, e3⟩ : ∃ h3 : Heap, h3 = ⟨h2.nx + 1, h2.bl.upd h2.nx (cellsO [.int .i64 e.t, .int .i64 e.r] 38 false), h2.lo⟩ := ⟨_, rfl⟩
      have le23 : Le h2 h3 := by rw [e3]; exact (Le.refl h2).new _
      have nx3 : h3.nx = h2.nx + 1 := by rw [e3]
      have l3 : h3.lo = h2.lo := by rw [e3]
      have gl3 := (le23.get _ (by omega)).trans gl2
      rw [← e3, call_y, round_eq gl3]
      clear e3
      simp(disch:=first|omega|(simp only[Wx];done)|(simp only[Wy];done)|(simp only[Wv];omega)|with_unfolding_all rfl)only[Wz,ptrTo,sliceTo, R_aP, rkAP, T.set_eq, ev_tmp, tm_same, tm_ne]
      obtain ⟨h4, e4⟩ : ∃ h4 : Heap, h4 = ⟨h3.nx + 1, h3.bl.upd h3.nx (cellsO [.int .i64 e.t, .int .i64 e.r] 38 false), h3.lo⟩ := ⟨_, rfl⟩
      have le34 : Le h3 h4 := by rw [e4]; exact (Le.refl h3).new _
      have nx4 : h4.nx = h3.nx + 1 := by rw [e4]
      have l4 : h4.lo = h3.lo := by rw [e4]
      have gn4 : h4.bl.get h3.nx = some (cellsO [.int .i64 e.t, .int .i64 e.r] 38 false) := by rw [e4]; exact T.get_upd_same _ _ _
      have gl4 := (le34.get _ (by omega)).trans gl3
      have gs4 := ((le23.trans le34).get _ (by omega)).trans gs2
      have gi4 := ((le23.trans le34).get _ (by omega)).trans gi2
      have ho4 : OwnN a h4 v (L.map nmOf) := ho2.le (le23.trans le34)
      rw [← e4, begin_eq gl4 (by omega)]
      clear e4
      have gs5 : (h4.bl.upd (a.nx + 1) (loopB .busy tmA)).get a.nx = _ := (T.get_updne _ _ (by omega)).trans gs4
      have gn5 : (h4.bl.upd (a.nx + 1) (loopB .busy tmA)).get h3.nx = _ := (T.get_updne _ _ (by omega)).trans gn4
      simp(disch:=first|omega|(simp only[Wx];done)|(simp only[Wy];done)|(simp only[Wv];omega)|with_unfolding_all rfl)only[Wz,ptrTo,sliceTo, R_block, R_aQ, rkAQ, T.set_eq, ev_tmp, tm_same, tm_ne, hA, gs5, gn5]
      obtain ⟨h5, e5⟩ : ∃ h5 : Heap, h5 = ⟨h4.nx + 1, (h4.bl.upd (a.nx + 1) (loopB .busy tmA)).upd h4.nx (cellsO [.int .i64 e.t, .int .i64 e.r] 38 false), h4.lo⟩ := ⟨_, rfl⟩
      have le45 : Le a h5 := by rw [e5]; exact (((le2.trans le23).trans le34).set (b := a.nx + 1) (by omega) _).new _
      have nx5 : h5.nx = h4.nx + 1 := by rw [e5]
      have l5 : h5.lo = h4.lo := by rw [e5]
      have gs5 : h5.bl.get a.nx = some (cellsO [v] 83 false) := by rw [e5]; exact (T.get_updne _ _ (by omega)).trans gs5
      have gl5 : h5.bl.get (a.nx + 1) = some (loopB .busy tmA) := by rw [e5]; exact (T.get_updne _ _ (by omega)).trans (T.get_upd_same _ _ _)
      have gi5 : h5.bl.get (a.nx + 2) = some (.miter (some bm) clock (e.born :: seen) clock) := by rw [e5]; exact (T.get_updne _ _ (by omega)).trans ((T.get_updne _ _ (by omega)).trans gi4)
      have gx5 : h5.bl.get h4.nx = some (cellsO ([nmOf e].flatMap encN) 38 false) := by rw [e5]; exact T.get_upd_same _ _ _
      have ho5 : OwnN a h5 v (L.map nmOf) := by
        rw [e5]
        exact Own.le (Own.put ho4 (by rw [gl4]; intro hc; unfold cellsO at hc; cases hc) _) ((Le.refl _).new _)
      have hLl : L.length ≤ 1000 := by
        rw [I.perm.length_eq]
        exact Nat.le_trans (List.length_filter_le _ _) hM
      rw [← e5]
      clear e5
      refine append_in (enc := encN) (a := a) (L := L.map nmOf) (M := [nmOf e]) encN_len encN_one (by decide) (by decide) ho5 (Sl.new (by omega) gx5 _) le45 (by simp; omega) (by omega) _ ?_
      intro v' h6 ho6 le6 _ n6 l6 same6
      have gs6 := (same6 a.nx (by omega) (by rw [gs5]; exact cells_op)).trans gs5
      have gl6 := (same6 (a.nx + 1) (by omega) (by rw [gl5]; intro hc; unfold cellsO at hc; cases hc)).trans gl5
      have gi6 := (same6 (a.nx + 2) (by omega) (by rw [gi5]; intro hc; unfold cellsO at hc; cases hc)).trans gi5
      obtain ⟨x', c', rfl, _⟩ := (show Sl encN h6 v' _ from ho6.sl)
      simp(disch:=first|omega|(simp only[Wx];done)|(simp only[Wy];done)|(simp only[Wv];omega)|with_unfolding_all rfl)only[Wz,ptrTo,sliceTo, gs6]
      obtain ⟨h7, e7⟩ : ∃ h7 : Heap, h7 = ⟨h6.nx, h6.bl.upd a.nx (cellsO [.slice x' (L.map nmOf ++ [nmOf e]).length c'] 83 false), h6.lo⟩ := ⟨_, rfl⟩
      have gl7 : h7.bl.get (a.nx + 1) = some (loopB .busy tmA) := by rw [e7]; exact (T.get_updne _ _ (by omega)).trans gl6
      have nx7 : h7.nx = h6.nx := by rw [e7]
      have l7 : h7.lo = h6.lo := by rw [e7]
      have gs7 : h7.bl.get a.nx = some (cellsO [.slice x' (L.map nmOf ++ [nmOf e]).length c'] 83 false) := by rw [e7]; exact T.get_upd_same _ _ _
      have gi7 : h7.bl.get (a.nx + 2) = some (.miter (some bm) clock (e.born :: seen) clock) := by rw [e7]; exact (T.get_updne _ _ (by omega)).trans gi6
      have le7 : Le a h7 := by rw [e7]; exact le6.set (by omega) _
      have ho7 : OwnN a h7 (.slice x' (L.map nmOf ++ [nmOf e]).length c') (L.map nmOf ++ [nmOf e]) := by rw [e7]; exact Own.put ho6 (by rw [gs6]; exact cells_op) _
      rw [← e7, bK_n, end_eq gl7 (by omega)]
      clear e7
      simp(disch:=first|omega|(simp only[Wx];done)|(simp only[Wy];done)|(simp only[Wv];omega)|with_unfolding_all rfl)only[Wz,ptrTo,sliceTo, cK_f, R_skip, bK_n, sK_n]
      have fr : ∀ c, c ≠ a.nx + 1 → (h7.bl.upd (a.nx + 1) (loopB .ready tmA)).get c = h7.bl.get c := fun c hc => T.get_updne _ _ (fun e => hc e.symm)
      refine hnext e he hns _ _ (.slice x' (L.map nmOf ++ [nmOf e]).length c') (L ++ [e]) ⟨le7.set (by omega) _, by show a.nx + 3 ≤ h7.nx; omega, (fr _ (by omega)).trans gs7, T.get_upd_same _ _ _, (fr _ (by omega)).trans gi7, ?_, (I.perm.append_right _).trans (seen_more o he hns).symm, ?_, ?_⟩
      · rw [List.map_append]
        exact Own.put ho7 (by rw [gl7]; intro hc; unfold cellsO at hc; cases hc) _
      · simp (disch := decide) only [tm_ne]; exact I.t0
      · simp (disch := decide) only [tm_ne]; exact I.t5
  intro k
  induction k with
  | zero =>
    intro seen tm h1 v L hu I
    refine step 0 seen tm h1 v L I fun e he hns => ?_
    have := unseen_lt he hns
    omega
  | succ k ih =>
    intro seen tm h1 v L hu I
    refine step (k + 1) seen tm h1 v L I fun e he hns tm' h1' v' L' I' => ih (e.born :: seen) tm' h1' v' L' ?_ I'
    have := unseen_lt he hns
    omega
end Go.Proofs

namespace Go.Proofs
open Go.Vai Go.Clashes
theorem rf_eq (rec : Rec Prop) (ps : List Nat) (x y : Code) (tm : T Value) (h : Heap) (κ : Ex → T Value → Heap → Prop) (c : Value) :
    rangeFuncB False pN Tryz.prog rec ps x y tm h κ (.func (.func fK) #[] #[c]) = callF False pN Tryz.prog rec fK [.func (.yield h.nx) #[] #[], c] ⟨h.nx + 1, h.bl.upd h.nx (.loop .ready none tm ps x y), h.lo⟩ (afterLoopK False h.nx tm κ) := newBlock_eq (fl := False) (.loop .ready none tm ps x y) h (fun l h => callF False pN Tryz.prog rec fK [.func (.yield l) #[] #[], c] h (afterLoopK False l tm κ))
theorem end0 (tm : T Value) (h : Heap) (κ : Value → Heap → Prop) : endK False [] κ .normal tm h = κ (.tuple ⟨[]⟩) h := id rfl
theorem end4 (tm : T Value) (h : Heap) (κ : Value → Heap → Prop) : endK False [.tmp 4] κ .ret tm h = κ (tmv tm 4) h := ev_eq tm (.tmp 4) fun v => κ v h
theorem after_eq {l : Nat} {tm tmA : T Value} {v : Value} {h : Heap} {κ : Ex → T Value → Heap → Prop} (hl : h.bl.get l = some (loopB .ready tmA)) (hlo : h.lo ≤ l) : ∃ o, afterLoopK False l tm κ v h = κ .normal tm ⟨h.nx, h.bl.upd l o, h.lo⟩ := by
  refine ⟨.loop .exhausted none tmA [7] aP (.block 1 aQ), ?_⟩
  unfold afterLoopK
  simp only [hl, setBlock_eq _ _ _ _ hlo]
theorem lay2 (s g : Value) : lay [s, g] .nil 0 = ((T.nil : T Value).upd 0 s).upd 1 g := by kernel_rfl
theorem appendSeq_w (M : List HE) (clock bm mc : Nat) (a : Heap) (o : MapOk M clock) (g : a.bl.get bm = some (.map (M.map toH) clock)) (hbm : bm < a.nx) (gc : a.bl.get mc = some (cellsO [.map (some bm)] 86 false)) (hmc : mc < a.nx) (hlo : a.lo ≤ a.nx) (hM : M.length ≤ 1000) (κ : Value → Heap → Prop)
    (hk : ∀ v h' (L : List HE), L.Perm M → OwnN a h' v (L.map nmOf) → Le a h' → κ v h') :
    CallW Tryz.prog fA [.slice none 0 0, .func (.func fK) #[] #[.pointer (some ⟨mc, 0, none⟩)]] a κ := by
  refine callW_run mixed (skip := skipN) (M.length + 60) ?_
  rw [callA, cA_eq, lay2]
  simp(disch:=first|omega|(simp only[Wx];done)|(simp only[Wy];done)|(simp only[Wv];omega)|with_unfolding_all rfl)only[Wz,ptrTo,sliceTo, R_seq, R_aA, rkAA, T.set_eq, ev_tmp, tm_same, tm_ne, sK_n, R_aB, rkAB, R_block, R_rf, rf_eq]
  generalize htm : (((((T.nil : T Value).upd 0 (Value.slice none 0 0)).upd 1 (Value.func (Fn.func fK) #[] #[Value.pointer (some ⟨mc, 0, none⟩)])).upd 2 (Value.pointer (some ⟨a.nx, 0, none⟩))).upd 4 (Value.slice none 0 0)).upd 6 (Value.func (Fn.func fK) #[] #[Value.pointer (some ⟨mc, 0, none⟩)]) = tmA
  have hA : tmv tmA 2 = ptrTo a.nx := by rw [← htm]; simp (disch := decide) only [tm_ne, tm_same]; rfl
  obtain ⟨hA2, e_hA2⟩ : ∃ hA2 : Heap, hA2 = ⟨a.nx + 1 + 1, ((a.bl.upd (a.nx) (cellsO [.slice none 0 0] 83 false)).upd (a.nx + 1) (loopB .ready tmA)), a.lo⟩ := ⟨_, rfl⟩
  have le_hA2 : Le a hA2 := by subst e_hA2; exact (((Le.refl a).new _).new _)
  have gs : hA2.bl.get (a.nx) = some (cellsO [.slice none 0 0] 83 false) := by subst e_hA2; exact (T.get_updne _ _ (by omega)).trans (T.get_upd_same _ _ _)
  have gl : hA2.bl.get (a.nx + 1) = some (loopB .ready tmA) := by subst e_hA2; exact T.get_upd_same _ _ _
  have n_hA2 : hA2.nx = a.nx + 1 + 1 := by subst e_hA2; rfl
  have l_hA2 : hA2.lo = a.lo := by subst e_hA2; rfl
  rw [← e_hA2]
  clear e_hA2
  have gc2 := (le_hA2.get _ hmc).trans gc
  have gm2 := (le_hA2.get _ hbm).trans g
  rw [callK, cK_eq, lay2]
  simp(disch:=first|omega|(simp only[Wx];done)|(simp only[Wy];done)|(simp only[Wv];omega)|with_unfolding_all rfl)only[Wz,ptrTo,sliceTo, R_seq, R_kA, rkA, T.set_eq, ev_tmp, tm_same, tm_ne, sK_n, gc2, range_eq gm2, R_block]
  refine keys_loop a bm clock M tmA o g hbm hlo hM hA _ ?_ (M.length + 41) [] _ _ (.slice none 0 0) [] ?_ ?_
  · intro tm h1 v L hp ho le1 n1 g1 gl1
    have l1 := le1.lo
    obtain ⟨ob, ea⟩ := after_eq (tm := tmA) (v := .tuple ⟨[]⟩) (κ := blockK 0 (seqK (RN (M.length + 58)) (aC.seq Code.ret) (endK False [XRes.tmp 4] κ))) gl1 (by omega)
    rw [bK_e0, end0, ea]
    have gs1 : (h1.bl.upd (a.nx + 1) ob).get a.nx = some (cellsO [v] 83 false) := (T.get_updne _ _ (by omega)).trans g1
    simp(disch:=first|omega|(simp only[Wx];done)|(simp only[Wy];done)|(simp only[Wv];omega)|with_unfolding_all rfl)only[Wz,ptrTo,sliceTo, bK_n, sK_n, R_seq, R_aC, rkAC, T.set_eq, ev_tmp, tm_same, tm_ne, hA, gs1, R_ret, sK_r, end4]
    exact hk v _ L hp (Own.put ho (by rw [gl1]; intro hc; unfold cellsO at hc; cases hc) _) (le1.set (by omega) _)
  · exact Nat.le_trans (List.countP_le_length) (by omega)
  · have e2 : hA2.nx = a.nx + 2 := by omega
    refine ⟨le_hA2.new _, by show a.nx + 3 ≤ hA2.nx + 1; omega, (T.get_updne _ _ (by omega)).trans gs, (T.get_updne _ _ (by omega)).trans gl, by rw [← e2]; exact T.get_upd_same _ _ _, .inl ⟨rfl, .inl rfl⟩, ?_, ?_, ?_⟩
    · rw [List.filter_eq_nil_iff.2 (fun x _ => by simp)]
    · simp (disch := decide) only [tm_ne, tm_same]
    · rw [tm_same, e2]; rfl
end Go.Proofs
