/-
  PROVED HERE: a part of the proof, by a calculus of weakest conditions over an abstract heap (K0, K1, K2, K3, K4, K5, K6, K7, K8).
-/
import Derived.Test.YtijmemedhkgplaaGreatV4
import Derived.Test.YtijmemedhkgplaaGreatRZ
import Derived.Test.YtijmemedhkgplaaGreatV5
set_option linter.unusedVariables false
set_option linter.unusedSimpArgs false
set_option maxRecDepth 100000
namespace Go.Proofs
open Go.Vai Go.Clashes
theorem mixed : Tryz.prog.follows .mixedOrders = true := by kernel_rfl
def nmV (t r : Int) : Value := .agg ⟨[.int .i64 t, .int .i64 r]⟩
theorem c120a : ∀ i, i < 7 → ∀ j, j < 7 → answersS Tryz.prog 200 120 [.int .i64 (.ofNat i), .int .i64 (.ofNat j)] (.bool (cmp (.ofNat i) (.ofNat j))) = true := by decide +kernel
theorem c120b (n : Nat) (b : Int) : answersS Tryz.prog 200 120 [.int .i64 (.negSucc n), .int .i64 b] (.bool false) = true := by kernel_rfl
theorem c120c (n : Nat) (b : Int) : answersS Tryz.prog 200 120 [.int .i64 (.ofNat (n + 7)), .int .i64 b] (.bool false) = true := by kernel_rfl
theorem c120d : ∀ i, i < 7 → ∀ n : Nat, answersS Tryz.prog 200 120 [.int .i64 (.ofNat i), .int .i64 (.negSucc n)] (.bool false) = true := by
  refine seven ?_ ?_ ?_ ?_ ?_ ?_ ?_ <;> intro n <;> kernel_rfl
theorem c120e : ∀ i, i < 7 → ∀ n : Nat, answersS Tryz.prog 200 120 [.int .i64 (.ofNat i), .int .i64 (.ofNat (n + 7))] (.bool false) = true := by
  refine seven ?_ ?_ ?_ ?_ ?_ ?_ ?_ <;> intro n <;> kernel_rfl
theorem compat_w (a b : Int) {h : Heap} {κ : Value → Heap → Prop} (hk : κ (.bool (cmp a b)) h) : CallW Tryz.prog 120 [.int .i64 a, .int .i64 b] h κ :=
  two_modes mixed (F := fun a b => .bool (cmp a b)) c120a (fun n b => by rw [cmp_l (kn_neg n)]; exact c120b n b) (fun n b => by rw [cmp_l (kn_big n)]; exact c120c n b) (fun i hi n => by rw [cmp_r (kn_neg n)]; exact c120d i hi n) (fun i hi n => by rw [cmp_r (kn_big n)]; exact c120e i hi n) a b hk
theorem c102a : ∀ i, i < 7 → ∀ j, j < 7 → answersS Tryz.prog 200 102 [.int .i64 (.ofNat i), .int .i64 (.ofNat j)] (.int .i64 (supM (.ofNat i) (.ofNat j))) = true := by decide +kernel
theorem c102b (n : Nat) (b : Int) : answersS Tryz.prog 200 102 [.int .i64 (.negSucc n), .int .i64 b] (.int .i64 0) = true := by kernel_rfl
theorem c102c (n : Nat) (b : Int) : answersS Tryz.prog 200 102 [.int .i64 (.ofNat (n + 7)), .int .i64 b] (.int .i64 0) = true := by kernel_rfl
theorem c102d : ∀ i, i < 7 → ∀ n : Nat, answersS Tryz.prog 200 102 [.int .i64 (.ofNat i), .int .i64 (.negSucc n)] (.int .i64 0) = true := by
  refine seven ?_ ?_ ?_ ?_ ?_ ?_ ?_ <;> intro n <;> kernel_rfl
theorem c102e : ∀ i, i < 7 → ∀ n : Nat, answersS Tryz.prog 200 102 [.int .i64 (.ofNat i), .int .i64 (.ofNat (n + 7))] (.int .i64 0) = true := by
  refine seven ?_ ?_ ?_ ?_ ?_ ?_ ?_ <;> intro n <;> kernel_rfl
theorem sup_w (a b : Int) {h : Heap} {κ : Value → Heap → Prop} (hk : κ (.int .i64 (supM a b)) h) : CallW Tryz.prog 102 [.int .i64 a, .int .i64 b] h κ :=
  two_modes mixed (F := fun a b => .int .i64 (supM a b)) c102a (fun n b => by rw [supM_l (kn_neg n)]; exact c102b n b) (fun n b => by rw [supM_l (kn_big n)]; exact c102c n b) (fun i hi n => by rw [supM_r (kn_neg n)]; exact c102d i hi n) (fun i hi n => by rw [supM_r (kn_big n)]; exact c102e i hi n) a b hk
theorem known_w (a : Int) {h : Heap} {κ : Value → Heap → Prop} (hk : κ (.bool (kn a)) h) : CallW Tryz.prog 63 [.int .i64 a] h κ := by
  refine pureW (v := .bool (kn a)) rfl rfl (callW_of mixed ?_) hk
  rw [rs_63]
  by_cases h1 : a < 0
  · simp(disch:=first|omega|(simp only[Wx];done)|(simp only[Wy];done)|(simp only[Wv];omega)|with_unfolding_all rfl)only[Wz,ptrTo,sliceTo]; simp [kn]; omega
  · by_cases h2 : 6 < a
    · simp(disch:=first|omega|(simp only[Wx];done)|(simp only[Wy];done)|(simp only[Wv];omega)|with_unfolding_all rfl)only[Wz,ptrTo,sliceTo]; simp [kn]; omega
    · simp(disch:=first|omega|(simp only[Wx];done)|(simp only[Wy];done)|(simp only[Wv];omega)|with_unfolding_all rfl)only[Wz,ptrTo,sliceTo]; simp [kn]; omega
theorem rknown_w (a : Int) {h : Heap} {κ : Value → Heap → Prop} (hk : κ (.bool (kn a)) h) : CallW Tryz.prog 28 [.int .i64 a] h κ := by
  refine pureW (v := .bool (kn a)) rfl rfl (callW_of mixed ?_) hk
  rw [rs_28]
  by_cases h1 : a < 0
  · simp(disch:=first|omega|(simp only[Wx];done)|(simp only[Wy];done)|(simp only[Wv];omega)|with_unfolding_all rfl)only[Wz,ptrTo,sliceTo]; simp [kn]; omega
  · by_cases h2 : 6 < a
    · simp(disch:=first|omega|(simp only[Wx];done)|(simp only[Wy];done)|(simp only[Wv];omega)|with_unfolding_all rfl)only[Wz,ptrTo,sliceTo]; simp [kn]; omega
    · simp(disch:=first|omega|(simp only[Wx];done)|(simp only[Wy];done)|(simp only[Wv];omega)|with_unfolding_all rfl)only[Wz,ptrTo,sliceTo]; simp [kn]; omega
end Go.Proofs

namespace Go.Proofs
open Go.Vai Go.Clashes
abbrev aggR (r : R5) : Value := .agg ⟨enc5 r⟩
noncomputable abbrev blkR (r : R5) : AObj := cellsO [.int .i64 r.id, .int .i64 r.x, .int .i64 r.m, .int .i64 r.w, .int .i64 r.s] 47 false
def zR : List Value := [.int .i64 0, .int .i64 0, .int .i64 0, .int .i64 0, .int .i64 0]
theorem nilR : NilEq Tryz.prog 54 := ⟨fun h n c n' c' => by kernel_rfl, fun h a n c n' c' => by kernel_rfl⟩
theorem shIdx (a0 a1 : Value) (h : Heap) (κ : Value → Heap → Prop) : BodyW Tryz.prog 52 [a0, a1] h κ = shIndexFunc Tryz.prog 3 5 a0 a1 h κ := by kernel_rfl
theorem shCon (a0 a1 : Value) (h : Heap) (κ : Value → Heap → Prop) : BodyW Tryz.prog 93 [a0, a1] h κ = shContainsFunc Tryz.prog 3 52 a0 a1 h κ := by kernel_rfl
theorem shClo (a0 : Value) (h : Heap) (κ : Value → Heap → Prop) : BodyW Tryz.prog 45 [a0] h κ = shClone Tryz.prog 54 47 5 zR a0 h κ := by kernel_rfl
theorem shDel (a0 a1 : Value) (h : Heap) (κ : Value → Heap → Prop) : BodyW Tryz.prog 121 [a0, a1] h κ = shDeleteFunc Tryz.prog 3 52 47 5 zR a0 a1 h κ := by kernel_rfl
theorem indexR_w (L : List R5) (F : R5 → Bool) (h : Heap) (v fv : Value) (κ : Value → Heap → Prop) (hv : Sl enc5 h v L) (hlen : L.length ≤ 1000000)
    (hF : ∀ p, p ∈ L → ∀ (h1 : Heap) (κ1 : Value → Heap → Prop), Le h h1 → (∀ h2, Le h1 h2 → κ1 (.bool (F p)) h2) → CallV Tryz.prog fv [aggR p] h1 κ1)
    (hk : ∀ h', Le h h' → κ (.int .i64 (optI (L.findIdx? F))) h') : CallW Tryz.prog 52 [v, fv] h κ :=
  gIndexFunc mixed enc5_len shIdx L F h v fv κ hv hlen hF hk
theorem containsR_w (L : List R5) (F : R5 → Bool) (h : Heap) (v fv : Value) (κ : Value → Heap → Prop) (hv : Sl enc5 h v L) (hlen : L.length ≤ 1000000)
    (hF : ∀ p, p ∈ L → ∀ (h1 : Heap) (κ1 : Value → Heap → Prop), Le h h1 → (∀ h2, Le h1 h2 → κ1 (.bool (F p)) h2) → CallV Tryz.prog fv [aggR p] h1 κ1)
    (hk : ∀ h', Le h h' → κ (.bool (L.any F)) h') : CallW Tryz.prog 93 [v, fv] h κ :=
  gContainsFunc mixed enc5_len shIdx shCon L F h v fv κ hv hlen hF hk
abbrev OwnR (a h : Heap) (v : Value) (L : List R5) : Prop := Own enc5 a 47 h v L
theorem cloneR_w (L : List R5) (h : Heap) (v : Value) (κ : Value → Heap → Prop) (hv : Sl enc5 h v L) (hlen : L.length ≤ 1000000) (hlo : h.lo ≤ h.nx) (hk : ∀ v' h', OwnR h h' v' L → Le h h' → κ v' h') : CallW Tryz.prog 45 [v] h κ :=
  gClone mixed enc5_len enc5_one (by decide) (by decide) nilR shClo L h v κ hv hlen hlo hk
theorem deleteR_w (a h : Heap) (L : List R5) (F : R5 → Bool) (v fv : Value) (κ : Value → Heap → Prop) (hle : Le a h) (ho : OwnR a h v L) (hlen : L.length ≤ 100000) (hlo : a.lo ≤ a.nx)
    (hF : ∀ p, ∀ (h1 : Heap) (κ1 : Value → Heap → Prop), Le a h1 → (h.nx ≤ h1.nx ∧ ∀ c, c < h.nx → h.bl.get c ≠ some (cellsO (L.flatMap enc5) 47 true) → h1.bl.get c = h.bl.get c) → (∀ h2, Le h1 h2 → κ1 (.bool (F p)) h2) → CallV Tryz.prog fv [aggR p] h1 κ1)
    (hk : ∀ v' h', Sl enc5 h' v' (L.filter fun p => !F p) → Cut 47 5 h' v' (L.filter fun p => !F p).length → Le a h' → (h.nx ≤ h'.nx ∧ ∀ c, c < h.nx → h.bl.get c ≠ some (cellsO (L.flatMap enc5) 47 true) → h'.bl.get c = h.bl.get c) → TyS 47 h' v' → κ v' h') : CallW Tryz.prog 121 [v, fv] h κ :=
  gDeleteCut mixed enc5_len enc5_one (by decide) rfl rfl (by decide) shIdx shDel a h L F v fv κ hle ho hlen hlo hF hk
theorem ld5 {h : Heap} {v : Value} {L : List R5} (hs : Sl enc5 h v L) (i : Nat) {p : R5} (hp : L[i]? = some p) :
    ∃ b o, b < h.nx ∧ (∀ (β : Type) (fl : β) (h' : Heap) (κ : Value → Heap → β), indexAddrS fl 5 v (.int .i64 (i : Int)) h' κ = κ (.pointer (some ⟨b, o, none⟩)) h') ∧
      ((∀ (β : Type) (fl : β) (κ : List Value → β), ldA fl (h.bl.get b) o 5 κ = κ (enc5 p)) ∧
      (∀ (β : Type) (fl : β) (κ : Value → β), ldO fl (h.bl.get b) o κ = κ (.int .i64 p.id)) ∧
      (∀ (β : Type) (fl : β) (κ : Value → β), ldO fl (h.bl.get b) (o + 1) κ = κ (.int .i64 p.x)) ∧
      (∀ (β : Type) (fl : β) (κ : Value → β), ldO fl (h.bl.get b) (o + 2) κ = κ (.int .i64 p.m)) ∧
      (∀ (β : Type) (fl : β) (κ : Value → β), ldO fl (h.bl.get b) (o + 3) κ = κ (.int .i64 p.w)) ∧
      (∀ (β : Type) (fl : β) (κ : Value → β), ldO fl (h.bl.get b) (o + 4) κ = κ (.int .i64 p.s))) := by
  obtain ⟨b, o, h1, h2, h3, hh⟩ := hs.ld enc5_len i hp
  have h5 : (enc5 p).length = 5 := rfl
  exact ⟨b, o, h1, h2, h3, fun β fl κ => ldO_has (fl := fl) hh 0 κ (by omega), fun β fl κ => ldO_has (fl := fl) hh 1 κ (by omega), fun β fl κ => ldO_has (fl := fl) hh 2 κ (by omega), fun β fl κ => ldO_has (fl := fl) hh 3 κ (by omega), fun β fl κ => ldO_has (fl := fl) hh 4 κ (by omega)⟩
theorem holds_w (r : R5) {h : Heap} {κ : Value → Heap → Prop} (hk : κ (.bool (decide (r.m ≠ 0))) h) : CallW Tryz.prog 108 [aggR r] h κ := by
  refine pureW (v := .bool (decide (r.m ≠ 0))) rfl rfl (callW_of mixed ?_) hk
  rw [rs_108]
  simp(disch:=first|omega|(simp only[Wx];done)|(simp only[Wy];done)|(simp only[Wv];omega)|with_unfolding_all rfl)only[Wz,ptrTo,sliceTo, enc5]
  simp
theorem waits_w (r : R5) {h : Heap} {κ : Value → Heap → Prop} (hk : κ (.bool (decide (0 < r.s))) h) : CallW Tryz.prog 101 [aggR r] h κ := by
  refine pureW (v := .bool (decide (0 < r.s))) rfl rfl (callW_of mixed ?_) hk
  rw [rs_101]
  simp(disch:=first|omega|(simp only[Wx];done)|(simp only[Wy];done)|(simp only[Wv];omega)|with_unfolding_all rfl)only[Wz,ptrTo,sliceTo, enc5]
theorem upgrades_w (r : R5) {h : Heap} {κ : Value → Heap → Prop} (hk : κ (.bool (upR r)) h) : CallW Tryz.prog 103 [aggR r] h κ := by
  refine pureW (v := .bool (upR r)) rfl rfl (callW_of mixed ?_) hk
  rw [rs_103]
  simp(disch:=first|omega|(simp only[Wx];done)|(simp only[Wy];done)|(simp only[Wv];omega)|with_unfolding_all rfl)only[Wz,ptrTo,sliceTo, enc5]
  refine holds_w r ?_
  by_cases h1 : r.m = 0
  · simp(disch:=first|omega|(simp only[Wx];done)|(simp only[Wy];done)|(simp only[Wv];omega)|with_unfolding_all rfl)only[Wz,ptrTo,sliceTo, dec_f (show ¬ r.m ≠ 0 by omega)]
    simp [upR, h1]
  · simp(disch:=first|omega|(simp only[Wx];done)|(simp only[Wy];done)|(simp only[Wv];omega)|with_unfolding_all rfl)only[Wz,ptrTo,sliceTo, dec_t (show r.m ≠ 0 from h1)]
    refine waits_w r ?_
    simp [upR, h1]
theorem askedQ_w (m : Int) {h : Heap} {κ : Value → Heap → Prop} (hk : κ (.bool (askedM m)) h) : CallW Tryz.prog 92 [.int .i64 m] h κ := by
  refine pureW (v := .bool (askedM m)) rfl rfl (callW_of mixed ?_) hk
  rw [rs_92]
  by_cases h0 : m = 0
  · simp(disch:=first|omega|(simp only[Wx];done)|(simp only[Wy];done)|(simp only[Wv];omega)|with_unfolding_all rfl)only[Wz,ptrTo,sliceTo, dec_t h0]
    simp [askedM, h0]
  · simp(disch:=first|omega|(simp only[Wx];done)|(simp only[Wy];done)|(simp only[Wv];omega)|with_unfolding_all rfl)only[Wz,ptrTo,sliceTo, dec_f h0]
    refine known_w m ?_
    simp [askedM, h0]
end Go.Proofs

namespace Go.Proofs
open Go.Vai Go.Clashes
def hdV (t r : Int) (q : Value) (w : Int) : Value := .agg ⟨[.int .i64 t, .int .i64 r, q, .int .i64 w]⟩
theorem sl_cells {h : Heap} {q : Value} {Q : List R5} (hq : Sl enc5 h q Q) : q.cells.toList = [q] ∧ oneC q = true := by
  obtain ⟨x, cap, rfl, _⟩ := hq; exact ⟨rfl, rfl⟩
theorem place1_w (id : Int) (r : R5) (b : Nat) (h : Heap) (κ : Value → Heap → Prop) (hlo : h.lo ≤ h.nx) (hb : b < h.nx) (hg : h.bl.get b = some (cellsO [.int .i64 id] 3 false)) (hk : ∀ h', Le h h' → κ (.bool (placeR id r)) h') :
    CallW Tryz.prog 115 [aggR r, ptrTo b] h κ := by
  have hk := hk _ ((Le.refl h).new (blkR r))
  refine callW_of mixed ?_
  rw [rs_115]
  simp(disch:=first|omega|(simp only[Wx];done)|(simp only[Wy];done)|(simp only[Wv];omega)|with_unfolding_all rfl)only[Wz,ptrTo,sliceTo, enc5, hg]
  exact hk
theorem placeQ_w (t r : Int) (q : Value) (w id : Int) (Q : List R5) (h : Heap) (κ : Value → Heap → Prop) (hq : Sl enc5 h q Q) (hlen : Q.length ≤ 1000000) (hlo : h.lo ≤ h.nx) (hk : ∀ h', Le h h' → κ (.int .i64 (optI (Q.findIdx? (placeR id)))) h') :
    CallW Tryz.prog 86 [hdV t r q w, .int .i64 id] h κ := by
  obtain ⟨hc, ho⟩ := sl_cells hq
  refine callW_of mixed ?_
  rw [rs_86]
  simp(disch:=first|omega|(simp only[Wx];done)|(simp only[Wy];done)|(simp only[Wv];omega)|with_unfolding_all rfl)only[Wz,ptrTo,sliceTo, hdV]
  obtain ⟨hA, eA⟩ : ∃ hA : Heap, hA = ⟨h.nx + 1 + 1, (h.bl.upd h.nx (cellsO [.int .i64 t, .int .i64 r, q, .int .i64 w] 129 false)).upd (h.nx + 1) (cellsO [.int .i64 id] 3 false), h.lo⟩ := ⟨_, rfl⟩
  have hleA : Le h hA := by subst eA; exact ((Le.refl h).new _).new _
  have g3 : hA.bl.get (h.nx + 1) = some (cellsO [.int .i64 id] 3 false) := by subst eA; exact T.get_upd_same _ _ _
  have nA : hA.nx = h.nx + 1 + 1 := by subst eA; rfl
  have lA : hA.lo = h.lo := by subst eA; rfl
  rw [← eA]
  clear eA
  refine indexR_w Q (placeR id) hA q _ _ (hq.le hleA) hlen ?_ fun h' hl => hk h' (hleA.trans hl)
  intro p hp h1 κ1 hl1 hk1
  have n1 := hl1.nx
  have l1 := hl1.lo
  simp(disch:=first|omega|(simp only[Wx];done)|(simp only[Wy];done)|(simp only[Wv];omega)|with_unfolding_all rfl)only[Wz,ptrTo,sliceTo, List.nil_append, List.cons_append]
  exact place1_w id p (h.nx + 1) h1 κ1 (by omega) (by omega) ((hl1.get _ (by omega)).trans g3) hk1
def fitsF (r o : R5) : Bool := decide (o.id ≠ r.id) && decide (o.m ≠ 0) && !cmp o.m r.w
theorem fits1_w (r o : R5) (b : Nat) (h : Heap) (κ : Value → Heap → Prop) (hlo : h.lo ≤ h.nx) (hb : b < h.nx) (hg : h.bl.get b = some (blkR r)) (hk : ∀ h', Le h h' → κ (.bool (fitsF r o)) h') :
    CallW Tryz.prog 119 [aggR o, ptrTo b] h κ := by
  have hk := hk _ ((Le.refl h).new (blkR o))
  refine callW_of mixed ?_
  rw [rs_119]
  by_cases h1 : o.id = r.id
  · simp(disch:=first|omega|(simp only[Wx];done)|(simp only[Wy];done)|(simp only[Wv];omega)|with_unfolding_all rfl)only[Wz,ptrTo,sliceTo, enc5, hg, dec_t h1]
    have e : fitsF r o = false := by simp [fitsF, h1]
    rw [e] at hk; exact hk
  · simp(disch:=first|omega|(simp only[Wx];done)|(simp only[Wy];done)|(simp only[Wv];omega)|with_unfolding_all rfl)only[Wz,ptrTo,sliceTo, enc5, hg, dec_f h1]
    refine holds_w o ?_
    by_cases h2 : o.m = 0
    · simp(disch:=first|omega|(simp only[Wx];done)|(simp only[Wy];done)|(simp only[Wv];omega)|with_unfolding_all rfl)only[Wz,ptrTo,sliceTo, dec_f (show ¬ o.m ≠ 0 by omega)]
      have e : fitsF r o = false := by simp [fitsF, h2]
      rw [e] at hk; exact hk
    · simp(disch:=first|omega|(simp only[Wx];done)|(simp only[Wy];done)|(simp only[Wv];omega)|with_unfolding_all rfl)only[Wz,ptrTo,sliceTo, dec_t (show o.m ≠ 0 from h2), hg]
      refine compat_w _ _ ?_
      simp(disch:=first|omega|(simp only[Wx];done)|(simp only[Wy];done)|(simp only[Wv];omega)|with_unfolding_all rfl)only[Wz,ptrTo,sliceTo]
      have e : fitsF r o = !cmp o.m r.w := by simp [fitsF, h1, h2]
      rw [e] at hk; exact hk
theorem fitsQ_w (t r' : Int) (q : Value) (w : Int) (r : R5) (Q : List R5) (h : Heap) (κ : Value → Heap → Prop) (hq : Sl enc5 h q Q) (hlen : Q.length ≤ 1000000) (hlo : h.lo ≤ h.nx) (hk : ∀ h', Le h h' → κ (.bool (fitsQ Q r)) h') :
    CallW Tryz.prog 97 [hdV t r' q w, aggR r] h κ := by
  obtain ⟨hc, ho⟩ := sl_cells hq
  refine callW_of mixed ?_
  rw [rs_97]
  simp(disch:=first|omega|(simp only[Wx];done)|(simp only[Wy];done)|(simp only[Wv];omega)|with_unfolding_all rfl)only[Wz,ptrTo,sliceTo, hdV, enc5]
  obtain ⟨hA, eA⟩ : ∃ hA : Heap, hA = ⟨h.nx + 1 + 1, (h.bl.upd h.nx (cellsO [.int .i64 t, .int .i64 r', q, .int .i64 w] 129 false)).upd (h.nx + 1) (blkR r), h.lo⟩ := ⟨_, rfl⟩
  have hleA : Le h hA := by subst eA; exact ((Le.refl h).new _).new _
  have g3 : hA.bl.get (h.nx + 1) = some (blkR r) := by subst eA; exact T.get_upd_same _ _ _
  have nA : hA.nx = h.nx + 1 + 1 := by subst eA; rfl
  have lA : hA.lo = h.lo := by subst eA; rfl
  rw [← eA]
  clear eA
  refine containsR_w Q (fitsF r) hA q _ _ (hq.le hleA) hlen ?_ ?_
  · intro p hp h1 κ1 hl1 hk1
    have n1 := hl1.nx
    have l1 := hl1.lo
    simp(disch:=first|omega|(simp only[Wx];done)|(simp only[Wy];done)|(simp only[Wv];omega)|with_unfolding_all rfl)only[Wz,ptrTo,sliceTo, List.nil_append, List.cons_append]
    exact fits1_w r p (h.nx + 1) h1 κ1 (by omega) (by omega) ((hl1.get _ (by omega)).trans g3) hk1
  · intro h' hl
    simp(disch:=first|omega|(simp only[Wx];done)|(simp only[Wy];done)|(simp only[Wv];omega)|with_unfolding_all rfl)only[Wz,ptrTo,sliceTo]
    exact hk h' (hleA.trans hl)
theorem first1_w (r : R5) {h : Heap} {κ : Value → Heap → Prop} (hk : κ (.bool (decide (r.m = 0))) h) : CallW Tryz.prog 118 [aggR r] h κ := by
  refine pureW (v := .bool (decide (r.m = 0))) rfl rfl (callW_of mixed ?_) hk
  rw [rs_118]
  simp(disch:=first|omega|(simp only[Wx];done)|(simp only[Wy];done)|(simp only[Wv];omega)|with_unfolding_all rfl)only[Wz,ptrTo,sliceTo, enc5]
  refine holds_w r ?_
  simp(disch:=first|omega|(simp only[Wx];done)|(simp only[Wy];done)|(simp only[Wv];omega)|with_unfolding_all rfl)only[Wz,ptrTo,sliceTo]
  simp
theorem firstQ_w (t r' : Int) (q : Value) (w : Int) (Q : List R5) (h : Heap) (κ : Value → Heap → Prop) (hq : Sl enc5 h q Q) (hlen : Q.length ≤ 1000000) (hlo : h.lo ≤ h.nx) (hk : ∀ h', Le h h' → κ (.int .i64 (optI (firstQ Q))) h') :
    CallW Tryz.prog 96 [hdV t r' q w] h κ := by
  obtain ⟨hc, ho⟩ := sl_cells hq
  refine callW_of mixed ?_
  rw [rs_96]
  simp(disch:=first|omega|(simp only[Wx];done)|(simp only[Wy];done)|(simp only[Wv];omega)|with_unfolding_all rfl)only[Wz,ptrTo,sliceTo, hdV]
  obtain ⟨hA, eA⟩ : ∃ hA : Heap, hA = ⟨h.nx + 1, h.bl.upd h.nx (cellsO [.int .i64 t, .int .i64 r', q, .int .i64 w] 129 false), h.lo⟩ := ⟨_, rfl⟩
  have hleA : Le h hA := by subst eA; exact (Le.refl h).new _
  have gA : hA.bl.get h.nx = some (cellsO [.int .i64 t, .int .i64 r', q, .int .i64 w] 129 false) := by subst eA; exact T.get_upd_same _ _ _
  have nA : hA.nx = h.nx + 1 := by subst eA; rfl
  have lA : hA.lo = h.lo := by subst eA; rfl
  rw [← eA]
  clear eA
  simp(disch:=first|omega|(simp only[Wx];done)|(simp only[Wy];done)|(simp only[Wv];omega)|with_unfolding_all rfl)only[Wz,ptrTo,sliceTo, hq.len]
  refine ⟨fun n l h1 => ∃ i : Nat, slot l 27 = .int .i64 (i : Int) ∧ slot l 25 = .int .i64 (optI (best Q i)) ∧ i ≤ Q.length ∧ n = Q.length - i ∧ Le hA h1, ⟨_, 0, rfl, rfl, Nat.zero_le _, rfl, Le.refl _⟩, ?_⟩
  rintro n l h1 ⟨i, s1, s2, hi, rfl, hle⟩
  have n1 := hle.nx
  have l1 := hle.lo
  have g1 := (hle.get h.nx (by omega)).trans gA
  have hq1 := hq.le (hleA.trans hle)
  by_cases hlt : i < Q.length
  · obtain ⟨p, hp⟩ : ∃ p, Q[i]? = some p := ⟨_, List.getElem?_eq_getElem hlt⟩
    obtain ⟨b, o, hb, hat, hld⟩ := ld5 hq1 i hp
    have ebest : best Q (i + 1) = if (upR p && lessQ Q p (best Q i)) = true then some i else best Q i := by
      show (match Q[i]? with | some r => _ | none => _) = _
      rw [hp]
    simp(disch:=first|omega|(simp only[Wx];done)|(simp only[Wy];done)|(simp only[Wv];omega)|with_unfolding_all rfl)only[Wz,ptrTo,sliceTo, s1, rs_96_2]
    refine ⟨fun l' h' => slot l' 24 = .int .i64 (optI (best Q (i + 1))) ∧ Le hA h', ?_, ?_⟩
    · simp(disch:=first|omega|(simp only[Wx];done)|(simp only[Wy];done)|(simp only[Wv];omega)|with_unfolding_all rfl)only[Wz,ptrTo,sliceTo, rs_96_0, s1, s2, hat, hld, enc5]
      obtain ⟨hB, eB⟩ : ∃ hB : Heap, hB = ⟨h1.nx + 1, h1.bl.upd h1.nx (blkR p), h1.lo⟩ := ⟨_, rfl⟩
      have hleB : Le h1 hB := by subst eB; exact (Le.refl h1).new _
      have gB : hB.bl.get h1.nx = some (blkR p) := by subst eB; exact T.get_upd_same _ _ _
      have gB1 := (hleB.get h.nx (by omega)).trans g1
      have nB : hB.nx = h1.nx + 1 := by subst eB; rfl
      have lB : hB.lo = h1.lo := by subst eB; rfl
      rw [← eB]
      clear eB
      refine upgrades_w p ?_
      cases hu : upR p with
      | false =>
        simp(disch:=first|omega|(simp only[Wx];done)|(simp only[Wy];done)|(simp only[Wv];omega)|with_unfolding_all rfl)only[Wz,ptrTo,sliceTo, s2]
        refine ⟨?_, hle.trans hleB⟩
        rw [ebest, hu]; simp [s2]
      | true =>
        cases hbst : best Q i with
        | none =>
          simp(disch:=first|omega|(simp only[Wx];done)|(simp only[Wy];done)|(simp only[Wv];omega)|with_unfolding_all rfl)only[Wz,ptrTo,sliceTo, s2, optI, lt_t (show (-1 : Int) < 0 by decide), hbst]
          refine ⟨?_, hle.trans hleB⟩
          rw [ebest, hu, hbst]; rfl
        | some k =>
          obtain ⟨hkl, pk, hpk, _⟩ := best_lt Q i k hbst
          obtain ⟨b', o', hb', hat', hld'⟩ := ld5 (hq1.le hleB) k hpk
          have eless : lessQ Q p (some k) = decide (p.s < pk.s) := by simp only [lessQ, hpk]
          simp(disch:=first|omega|(simp only[Wx];done)|(simp only[Wy];done)|(simp only[Wv];omega)|with_unfolding_all rfl)only[Wz,ptrTo,sliceTo, s2, optI, lt_f (show (0 : Int) ≤ (k : Int) by omega), hbst, gB, gB1, hat', hld']
          by_cases hs : p.s < pk.s
          · simp(disch:=first|omega|(simp only[Wx];done)|(simp only[Wy];done)|(simp only[Wv];omega)|with_unfolding_all rfl)only[Wz,ptrTo,sliceTo, dec_t hs]
            refine ⟨?_, hle.trans hleB⟩
            rw [ebest, hu, hbst, eless, dec_t hs]; rfl
          · simp(disch:=first|omega|(simp only[Wx];done)|(simp only[Wy];done)|(simp only[Wv];omega)|with_unfolding_all rfl)only[Wz,ptrTo,sliceTo, dec_f hs]
            refine ⟨?_, hle.trans hleB⟩
            rw [ebest, hu, hbst, eless, dec_f hs]
            first | rfl | (rw [s2, hbst]; rfl)
    · rintro l' h' ⟨k1, k2⟩
      exact ⟨_, by omega, i + 1, rfl, k1, by omega, rfl, k2⟩
  · have hil : i = Q.length := by omega
    subst hil
    simp(disch:=first|omega|(simp only[Wx];done)|(simp only[Wy];done)|(simp only[Wv];omega)|with_unfolding_all rfl)only[Wz,ptrTo,sliceTo, s1, rs_96_2]
    refine ⟨fun l' h' => slot l' 6 = .int .i64 (optI (firstQ Q)) ∧ Le hA h', ?_, ?_⟩
    rotate_left
    · rintro l' h' ⟨k1, k2⟩
      show κ (slot l' 6) h'
      rw [k1]; exact hk h' (hleA.trans k2)
    cases hbst : best Q Q.length with
    | some k =>
      have e : firstQ Q = some k := by simp only [firstQ, hbst]
      simp(disch:=first|omega|(simp only[Wx];done)|(simp only[Wy];done)|(simp only[Wv];omega)|with_unfolding_all rfl)only[Wz,ptrTo,sliceTo, rs_96_1, s2, hbst, optI, lt_f (show (0 : Int) ≤ (k : Int) by omega)]
      refine ⟨?_, hle⟩
      rw [e]
    | none =>
      have e : firstQ Q = Q.findIdx? (fun r => decide (r.m = 0)) := by simp only [firstQ, hbst]
      simp(disch:=first|omega|(simp only[Wx];done)|(simp only[Wy];done)|(simp only[Wv];omega)|with_unfolding_all rfl)only[Wz,ptrTo,sliceTo, rs_96_1, s2, hbst, optI, lt_t (show (-1 : Int) < 0 by decide), g1]
      refine indexR_w Q (fun r => decide (r.m = 0)) h1 q _ _ hq1 hlen ?_ ?_
      · intro p hp h2 κ2 hl2 hk2
        simp(disch:=first|omega|(simp only[Wx];done)|(simp only[Wy];done)|(simp only[Wv];omega)|with_unfolding_all rfl)only[Wz,ptrTo,sliceTo, List.nil_append, List.append_nil]
        exact first1_w p (hk2 h2 (Le.refl _))
      · intro h' hl
        refine ⟨?_, hle.trans hl⟩
        rw [e]; rfl
end Go.Proofs

namespace Go.Proofs
open Go.Vai Go.Clashes
theorem Own.base {α : Type} {enc : α → List Value} {a a' h : Heap} {e : TypeId} {v : Value} {L : List α} (ho : Own enc a e h v L) (hn : a'.nx ≤ a.nx) : Own enc a' e h v L := by
  rcases ho with ho | ⟨b, h0, h1, h2⟩
  · exact .inl ho
  · exact .inr ⟨b, h0, Nat.le_trans hn h1, h2⟩
theorem Own.same {α : Type} {enc : α → List Value} {a h h' : Heap} {e : TypeId} {v : Value} {L : List α} (ho : Own enc a e h v L) (hn : h.nx ≤ h'.nx) (hl : h'.lo = h.lo) (hs : ∀ b, a.nx ≤ b → b < h.nx → h'.bl.get b = h.bl.get b) : Own enc a e h' v L := by
  rcases ho with ho | ⟨b, h0, h1, h2, h3, h4⟩
  · exact .inl ho
  · exact .inr ⟨b, h0, h1, Nat.lt_of_lt_of_le h2 hn, by rw [hl]; exact h3, by rw [hs b h1 h2]; exact h4⟩
theorem own_w (t r : Int) (q : Value) (w : Int) (Q : List R5) (h : Heap) (κ : Value → Heap → Prop) (hq : Sl enc5 h q Q) (hlen : Q.length ≤ 1000000) (hlo : h.lo ≤ h.nx) (hk : ∀ q' h', OwnR h h' q' Q → Le h h' → κ (hdV t r q' w) h') :
    CallW Tryz.prog 95 [hdV t r q w] h κ := by
  obtain ⟨qx, qc, rfl, _⟩ := id hq
  refine callW_of mixed ?_
  rw [rs_95]
  simp(disch:=first|omega|(simp only[Wx];done)|(simp only[Wy];done)|(simp only[Wv];omega)|with_unfolding_all rfl)only[Wz,ptrTo,sliceTo, hdV]
  obtain ⟨hA, eA⟩ : ∃ hA : Heap, hA = ⟨h.nx + 1 + 1, (h.bl.upd h.nx (cellsO [.int .i64 t, .int .i64 r, .slice qx Q.length qc, .int .i64 w] 56 false)).upd (h.nx + 1) (cellsO [.int .i64 0, .int .i64 0, .slice none 0 0, .int .i64 0] 129 false), h.lo⟩ := ⟨_, rfl⟩
  have hleA : Le h hA := by subst eA; exact ((Le.refl h).new _).new _
  have g1 : hA.bl.get h.nx = some (cellsO [.int .i64 t, .int .i64 r, .slice qx Q.length qc, .int .i64 w] 56 false) := by subst eA; exact (T.get_updne _ _ (by omega)).trans (T.get_upd_same _ _ _)
  have g3 : hA.bl.get (h.nx + 1) = some (cellsO [.int .i64 0, .int .i64 0, .slice none 0 0, .int .i64 0] 129 false) := by subst eA; exact T.get_upd_same _ _ _
  have nA : hA.nx = h.nx + 1 + 1 := by subst eA; rfl
  have lA : hA.lo = h.lo := by subst eA; rfl
  rw [← eA]
  clear eA
  refine cloneR_w Q hA _ _ (hq.le hleA) hlen (by omega) ?_
  intro q' h2 ho2 hle2
  have n2 := hle2.nx
  have l2 := hle2.lo
  have g12 := (hle2.get h.nx (by omega)).trans g1
  have g32 := (hle2.get (h.nx + 1) (by omega)).trans g3
  have hle := (hleA.trans hle2)
  obtain ⟨qx', qc', rfl, _⟩ := id ho2.sl
  simp(disch:=first|omega|(simp only[Wx];done)|(simp only[Wy];done)|(simp only[Wv];omega)|with_unfolding_all rfl)only[Wz,ptrTo,sliceTo, g12, g32]
  refine hk _ _ ?_ ?_
  · refine Own.base (Own.same ho2 (Nat.le_refl _) rfl fun b h1 _ => ?_) (by omega)
    exact (T.get_updne _ _ (by omega)).trans (T.get_updne _ _ (by omega))
  · exact (hle.set (b := h.nx) (Nat.le_refl _) _).set (b := h.nx + 1) (Nat.le_succ _) _
def twiceF (id x : Int) (r : R5) : Bool := decide (r.id = id) || decide (r.x = x)
theorem ask1_w (id x : Int) (r : R5) (b3 b5 : Nat) (h : Heap) (κ : Value → Heap → Prop) (hlo : h.lo ≤ h.nx) (hb3 : b3 < h.nx) (hb5 : b5 < h.nx) (hg3 : h.bl.get b3 = some (cellsO [.int .i64 id] 3 false)) (hg5 : h.bl.get b5 = some (cellsO [.int .i64 x] 3 false))
    (hk : ∀ h', Le h h' → κ (.bool (twiceF id x r)) h') : CallW Tryz.prog 94 [aggR r, ptrTo b3, ptrTo b5] h κ := by
  have hk := hk _ ((Le.refl h).new (blkR r))
  refine callW_of mixed ?_
  rw [rs_94]
  by_cases h1 : r.id = id
  · simp(disch:=first|omega|(simp only[Wx];done)|(simp only[Wy];done)|(simp only[Wv];omega)|with_unfolding_all rfl)only[Wz,ptrTo,sliceTo, enc5, hg3, hg5, dec_t h1]
    have e : twiceF id x r = true := by simp [twiceF, h1]
    rw [e] at hk; exact hk
  · simp(disch:=first|omega|(simp only[Wx];done)|(simp only[Wy];done)|(simp only[Wv];omega)|with_unfolding_all rfl)only[Wz,ptrTo,sliceTo, enc5, hg3, hg5, dec_f h1]
    have e : twiceF id x r = decide (r.x = x) := by simp [twiceF, h1]
    rw [e] at hk; exact hk
theorem Own.put {α : Type} {enc : α → List Value} {a h : Heap} {e : TypeId} {v : Value} {L : List α} (ho : Own enc a e h v L) {c : Nat} (hc : h.bl.get c ≠ some (cellsO (L.flatMap enc) e true)) (o : AObj) : Own enc a e ⟨h.nx, h.bl.upd c o, h.lo⟩ v L := by
  rcases ho with ho | ⟨b, h0, h1, h2, h3, h4⟩
  · exact .inl ho
  · refine .inr ⟨b, h0, h1, h2, h3, (T.get_updne _ _ ?_).trans h4⟩
    rintro rfl
    exact hc h4
theorem ask_tail (t r : Int) (qx : Option Addr) (qc : Nat) (w : Int) (p : R5) (g : Bool) (b29 b35 b7 : Nat) (Q : List R5) (a h : Heap) (κ : Value → Heap → Prop) (ho : OwnR a h (.slice qx Q.length qc) Q) (hle : Le a h) (hlen : Q.length ≤ 100000) (hlo : h.lo ≤ h.nx)
    (hb29 : b29 < h.nx) (hb35 : b35 < h.nx) (hb7 : b7 < h.nx) (hd : b29 ≠ b7) (hl29 : h.lo ≤ b29) (hl7 : h.lo ≤ b7)
    (g29 : h.bl.get b29 = some (cellsO [.int .i64 t, .int .i64 r, .slice qx Q.length qc, .int .i64 w] 129 false)) (g35 : h.bl.get b35 = some (blkR p)) (g7 : h.bl.get b7 = some (cellsO [.int .i64 0, .int .i64 0, .slice none 0 0, .int .i64 0] 56 false))
    (hk : ∀ q' h', OwnR a h' q' (Q ++ [p]) → (h.nx ≤ h'.nx ∧ h'.lo = h.lo ∧ ∀ b, b < a.nx → b ≠ b29 → b ≠ b7 → h'.bl.get b = a.bl.get b) → κ (.tuple ⟨[hdV t r q' w, .bool g, .int .i64 0]⟩) h') :
    rs_65_1 b29 b35 b7 (.bool g) h κ := by
  simp(disch:=first|omega|(simp only[Wx];done)|(simp only[Wy];done)|(simp only[Wv];omega)|with_unfolding_all rfl)only[Wz,ptrTo,sliceTo, rs_65_1, g29, g35]
  have hle1 := (Le.refl h).new (blkR p)
  refine append_in (enc := enc5) (a := a) (L := Q) (M := [p]) enc5_len enc5_one (by decide) (by decide) (ho.le hle1) (Sl.new (L := [p]) (e := 47) (op := false) (Nat.lt_succ_self _) (T.get_upd_same _ _ _) _) (hle.new _) (by simp; omega) (by show h.lo ≤ h.nx + 1; omega) _ ?_
  intro v' h' ho' hle' hn1 hn2 hl' hsame
  obtain ⟨qx', qc', rfl, _⟩ := (show Sl enc5 h' v' (Q ++ [p]) from ho'.sl)
  have n1 : h.nx + 1 ≤ h'.nx := hn2
  have k1 : ∀ b, b < h.nx → h.bl.get b ≠ some (cellsO (Q.flatMap enc5) 47 true) → h'.bl.get b = h.bl.get b := by
    intro b hb hne
    have e : (h.bl.upd h.nx (blkR p)).get b = h.bl.get b := T.get_updne _ _ (by omega)
    exact (hsame b (Nat.lt_succ_of_lt hb) (fun k => hne (by rw [← e]; exact k))).trans e
  have g29' := (k1 b29 hb29 (by rw [g29]; exact cells_op)).trans g29
  have g7' := (k1 b7 hb7 (by rw [g7]; exact cells_op)).trans g7
  have hl2 : h'.lo = h.lo := hl'
  simp(disch:=first|omega|(simp only[Wx];done)|(simp only[Wy];done)|(simp only[Wv];omega)|with_unfolding_all rfl)only[Wz,ptrTo,sliceTo, g29', g7']
  refine hk _ _ ?_ ⟨by show h.nx ≤ h'.nx; omega, hl2, ?_⟩
  · refine Own.put (Own.put ho' (by rw [g29']; exact cells_op) _) ?_ _
    show (h'.bl.upd b29 _).get b7 ≠ _
    rw [T.get_updne _ _ hd, g7']
    exact cells_op
  · intro b hb h1 h2
    exact (T.get_updne _ _ (fun e => h2 e.symm)).trans ((T.get_updne _ _ (fun e => h1 e.symm)).trans (hle'.get b hb))
theorem ask_w (t r : Int) (q : Value) (w id x m : Int) (Q : List R5) (h : Heap) (κ : Value → Heap → Prop) (hq : Sl enc5 h q Q) (hlen : Q.length ≤ 100000) (hlo : h.lo ≤ h.nx) (hw : 0 ≤ w ∧ w ≤ 1000000) (hid : 0 ≤ id) (hm : askedM m = true) (hn : ∀ p ∈ Q, p.id ≠ id ∧ p.x ≠ x)
    (hk : ∀ q' h', OwnR h h' q' (Q ++ [(askR Q w id x m).1]) → Le h h' → κ (.tuple ⟨[hdV t r q' (askR Q w id x m).2.1, .bool (askR Q w id x m).2.2, .int .i64 0]⟩) h') :
    CallW Tryz.prog 65 [hdV t r q w, .int .i64 id, .int .i64 x, .int .i64 m] h κ := by
  obtain ⟨qx, qc, rfl, _⟩ := (show Sl enc5 h q Q from hq)
  refine callW_of mixed ?_
  rw [rs_65]
  simp(disch:=first|omega|(simp only[Wx];done)|(simp only[Wy];done)|(simp only[Wv];omega)|with_unfolding_all rfl)only[Wz,ptrTo,sliceTo, hdV]
  obtain ⟨hA, eA⟩ : ∃ hA : Heap, hA = ⟨h.nx + 1 + 1 + 1 + 1, (((h.bl.upd h.nx (cellsO [.int .i64 t, .int .i64 r, .slice qx Q.length qc, .int .i64 w] 56 false)).upd (h.nx + 1) (cellsO [.int .i64 id] 3 false)).upd (h.nx + 1 + 1) (cellsO [.int .i64 x] 3 false)).upd (h.nx + 1 + 1 + 1) (cellsO [.int .i64 0, .int .i64 0, .slice none 0 0, .int .i64 0] 56 false), h.lo⟩ := ⟨_, rfl⟩
  have hleA : Le h hA := by subst eA; exact ((((Le.refl h).new _).new _).new _).new _
  have g1 : hA.bl.get h.nx = some (cellsO [.int .i64 t, .int .i64 r, .slice qx Q.length qc, .int .i64 w] 56 false) := by subst eA; exact (T.get_updne _ _ (by omega)).trans ((T.get_updne _ _ (by omega)).trans ((T.get_updne _ _ (by omega)).trans (T.get_upd_same _ _ _)))
  have g3 : hA.bl.get (h.nx + 1) = some (cellsO [.int .i64 id] 3 false) := by subst eA; exact (T.get_updne _ _ (by omega)).trans ((T.get_updne _ _ (by omega)).trans (T.get_upd_same _ _ _))
  have g5 : hA.bl.get (h.nx + 1 + 1) = some (cellsO [.int .i64 x] 3 false) := by subst eA; exact (T.get_updne _ _ (by omega)).trans (T.get_upd_same _ _ _)
  have g7 : hA.bl.get (h.nx + 1 + 1 + 1) = some (cellsO [.int .i64 0, .int .i64 0, .slice none 0 0, .int .i64 0] 56 false) := by subst eA; exact T.get_upd_same _ _ _
  have nA : hA.nx = h.nx + 1 + 1 + 1 + 1 := by subst eA; rfl
  have lA : hA.lo = h.lo := by subst eA; rfl
  rw [← eA]
  clear eA
  refine askedQ_w m ?_
  rw [hm]
  simp(disch:=first|omega|(simp only[Wx];done)|(simp only[Wy];done)|(simp only[Wv];omega)|with_unfolding_all rfl)only[Wz,ptrTo,sliceTo, rs_65_3, g1, g3, g5]
  refine containsR_w Q (twiceF id x) hA _ _ _ (hq.le hleA) (by omega) ?_ ?_
  · intro p hp h1 κ1 hl1 hk1
    have n1 := hl1.nx
    have l1 := hl1.lo
    simp(disch:=first|omega|(simp only[Wx];done)|(simp only[Wy];done)|(simp only[Wv];omega)|with_unfolding_all rfl)only[Wz,ptrTo,sliceTo, List.nil_append, List.cons_append]
    exact ask1_w id x p (h.nx + 1) (h.nx + 1 + 1) h1 κ1 (by omega) (by omega) (by omega) ((hl1.get _ (by omega)).trans g3) ((hl1.get _ (by omega)).trans g5) hk1
  intro h2 hle2
  have n2 := hle2.nx
  have l2 := hle2.lo
  have hno : Q.any (twiceF id x) = false := by
    rw [List.any_eq_false]
    intro p hp
    simp [twiceF, (hn p hp).1, (hn p hp).2]
  rw [hno]
  have g12 := (hle2.get h.nx (by omega)).trans g1
  have g32 := (hle2.get (h.nx + 1) (by omega)).trans g3
  have g52 := (hle2.get (h.nx + 1 + 1) (by omega)).trans g5
  have g72 := (hle2.get (h.nx + 1 + 1 + 1) (by omega)).trans g7
  simp(disch:=first|omega|(simp only[Wx];done)|(simp only[Wy];done)|(simp only[Wv];omega)|with_unfolding_all rfl)only[Wz,ptrTo,sliceTo, rs_65_2, g12]
  refine own_w t r _ w Q h2 _ (hq.le (hleA.trans hle2)) (by omega) (by omega) ?_
  intro q3 h3 ho3 hle3
  have n3 := hle3.nx
  have l3 := hle3.lo
  obtain ⟨qx3, qc3, rfl, _⟩ := (show Sl enc5 h3 q3 Q from ho3.sl)
  have g33 := (hle3.get (h.nx + 1) (by omega)).trans g32
  have g53 := (hle3.get (h.nx + 1 + 1) (by omega)).trans g52
  have g73 := (hle3.get (h.nx + 1 + 1 + 1) (by omega)).trans g72
  simp(disch:=first|omega|(simp only[Wx];done)|(simp only[Wy];done)|(simp only[Wv];omega)|with_unfolding_all rfl)only[Wz,ptrTo,sliceTo, hdV, g33, g53]
  obtain ⟨hB, eB⟩ : ∃ hB : Heap, hB = ⟨h3.nx + 1 + 1, (h3.bl.upd h3.nx (cellsO [.int .i64 t, .int .i64 r, .slice qx3 Q.length qc3, .int .i64 w] 129 false)).upd (h3.nx + 1) (blkR ⟨id, x, 0, m, 0⟩), h3.lo⟩ := ⟨_, rfl⟩
  have hleB : Le h3 hB := by subst eB; exact ((Le.refl h3).new _).new _
  have g29 : hB.bl.get h3.nx = some (cellsO [.int .i64 t, .int .i64 r, .slice qx3 Q.length qc3, .int .i64 w] 129 false) := by subst eB; exact (T.get_updne _ _ (by omega)).trans (T.get_upd_same _ _ _)
  have g35 : hB.bl.get (h3.nx + 1) = some (blkR ⟨id, x, 0, m, 0⟩) := by subst eB; exact T.get_upd_same _ _ _
  have g7B := (hleB.get (h.nx + 1 + 1 + 1) (by omega)).trans g73
  have nB : hB.nx = h3.nx + 1 + 1 := by subst eB; rfl
  have lB : hB.lo = h3.lo := by subst eB; rfl
  rw [← eB]
  clear eB
  have hoB := ho3.le hleB
  refine firstQ_w t r _ w Q hB _ hoB.sl (by omega) (by omega) ?_
  intro h4 hle4
  have n4 := hle4.nx
  have l4 := hle4.lo
  have hall : Le h h4 := (((hleA.trans hle2).trans hle3).trans hleB).trans hle4
  have hle24 : Le h2 h4 := (hle3.trans hleB).trans hle4
  have g294 := (hle4.get h3.nx (by omega)).trans g29
  have g354 := (hle4.get (h3.nx + 1) (by omega)).trans g35
  have g74 := (hle4.get (h.nx + 1 + 1 + 1) (by omega)).trans g7B
  have ho4 := hoB.le hle4
  have fin : ∀ (p : R5) (w' : Int) (g : Bool) (h5 : Heap), askR Q w id x m = (p, w', g) → OwnR h2 h5 (.slice qx3 Q.length qc3) Q → Le h h5 → Le h2 h5 → h4.nx ≤ h5.nx →
      h5.bl.get h3.nx = some (cellsO [.int .i64 t, .int .i64 r, .slice qx3 Q.length qc3, .int .i64 w'] 129 false) → h5.bl.get (h3.nx + 1) = some (blkR p) → h5.bl.get (h.nx + 1 + 1 + 1) = some (cellsO [.int .i64 0, .int .i64 0, .slice none 0 0, .int .i64 0] 56 false) →
      rs_65_1 h3.nx (h3.nx + 1) (h.nx + 1 + 1 + 1) (.bool g) h5 κ := by
    intro p w' g h5 he ho5 hl5 hl25 n5 k1 k2 k3
    have l5 := hl5.lo
    refine ask_tail t r qx3 qc3 w' p g _ _ _ Q h2 h5 κ ho5 hl25 (by omega) (by omega) (by omega) (by omega) (by omega) (by omega) (by omega) (by omega) k1 k2 k3 ?_
    intro q' h' ho' hfr
    obtain ⟨e1, e2, e3⟩ := hfr
    rw [he] at hk
    have nn := hl5.nx
    refine hk q' h' (Own.base ho' (by omega)) ⟨by omega, by rw [e2]; exact hl5.lo, fun b hb => ?_⟩
    exact (e3 b (by omega) (by omega) (by omega)).trans ((hleA.trans hle2).get b hb)
  have hall4 := hall
  cases hf : firstQ Q with
  | some i =>
    simp(disch:=first|omega|(simp only[Wx];done)|(simp only[Wy];done)|(simp only[Wv];omega)|with_unfolding_all rfl)only[Wz,ptrTo,sliceTo, optI, lt_f (show (0 : Int) ≤ (i : Int) by omega)]
    obtain ⟨hC, eC⟩ : ∃ hC : Heap, hC = ⟨h4.nx, (h4.bl.upd h3.nx (cellsO [.int .i64 t, .int .i64 r, .slice qx3 Q.length qc3, .int .i64 (w + 1)] 129 false)).upd (h3.nx + 1) (blkR ⟨id, x, 0, m, w + 1⟩), h4.lo⟩ := ⟨_, rfl⟩
    refine ⟨fun l h' => HQ hC h', ?_, ?_⟩
    · simp(disch:=first|omega|(simp only[Wx];done)|(simp only[Wy];done)|(simp only[Wv];omega)|with_unfolding_all rfl)only[Wz,ptrTo,sliceTo, rs_65_0, g294, g354]
      exact eC
    · intro l h' hq'
      cases (show hC = h' from hq')
      have nC : hC.nx = h4.nx := by rw [eC]
      refine fin ⟨id, x, 0, m, w + 1⟩ (w + 1) false hC ?_ ?_ ?_ ?_ (by omega) ?_ ?_ ?_
      · unfold askR
        rw [if_neg]
        simp [hf]
      · rw [eC]
        exact Own.put (Own.put ho4 (by rw [g294]; exact cells_op) _) (by show (h4.bl.upd h3.nx _).get (h3.nx + 1) ≠ _; rw [T.get_updne _ _ (by omega), g354]; exact cells_op) _
      · rw [eC]; exact (hall4.set (b := h3.nx) (by omega) _).set (b := h3.nx + 1) (by omega) _
      · rw [eC]; exact (hle24.set (b := h3.nx) (by omega) _).set (b := h3.nx + 1) (by omega) _
      · rw [eC]; exact (T.get_updne _ _ (by omega)).trans (T.get_upd_same _ _ _)
      · rw [eC]; exact T.get_upd_same _ _ _
      · rw [eC]; exact ((T.get_updne _ _ (by omega)).trans (T.get_updne _ _ (by omega))).trans g74
  | none =>
    simp(disch:=first|omega|(simp only[Wx];done)|(simp only[Wy];done)|(simp only[Wv];omega)|with_unfolding_all rfl)only[Wz,ptrTo,sliceTo, optI, lt_t (show (-1 : Int) < 0 by decide), g294, g354]
    refine fitsQ_w t r _ w ⟨id, x, 0, m, 0⟩ Q h4 _ ho4.sl (by omega) (by omega) ?_
    intro h5 hle5
    have n5 := hle5.nx
    have l5 := hle5.lo
    have g295 := (hle5.get h3.nx (by omega)).trans g294
    have g355 := (hle5.get (h3.nx + 1) (by omega)).trans g354
    have g75 := (hle5.get (h.nx + 1 + 1 + 1) (by omega)).trans g74
    have ho5 := ho4.le hle5
    have hall5 := hall.trans hle5
    have hle25 := hle24.trans hle5
    cases hfit : fitsQ Q ⟨id, x, 0, m, 0⟩ with
    | false =>
      simp(disch:=first|omega|(simp only[Wx];done)|(simp only[Wy];done)|(simp only[Wv];omega)|with_unfolding_all rfl)only[Wz,ptrTo,sliceTo]
      obtain ⟨hC, eC⟩ : ∃ hC : Heap, hC = ⟨h5.nx, (h5.bl.upd h3.nx (cellsO [.int .i64 t, .int .i64 r, .slice qx3 Q.length qc3, .int .i64 (w + 1)] 129 false)).upd (h3.nx + 1) (blkR ⟨id, x, 0, m, w + 1⟩), h5.lo⟩ := ⟨_, rfl⟩
      refine ⟨fun l h' => HQ hC h', ?_, ?_⟩
      · simp(disch:=first|omega|(simp only[Wx];done)|(simp only[Wy];done)|(simp only[Wv];omega)|with_unfolding_all rfl)only[Wz,ptrTo,sliceTo, rs_65_0, g295, g355]
        exact eC
      · intro l h' hq'
        cases (show hC = h' from hq')
        have nC : hC.nx = h5.nx := by rw [eC]
        refine fin ⟨id, x, 0, m, w + 1⟩ (w + 1) false hC ?_ ?_ ?_ ?_ (by omega) ?_ ?_ ?_
        · unfold askR
          rw [if_neg]
          simp [hf, hfit]
        · rw [eC]
          exact Own.put (Own.put ho5 (by rw [g295]; exact cells_op) _) (by show (h5.bl.upd h3.nx _).get (h3.nx + 1) ≠ _; rw [T.get_updne _ _ (by omega), g355]; exact cells_op) _
        · rw [eC]; exact (hall5.set (b := h3.nx) (by omega) _).set (b := h3.nx + 1) (by omega) _
        · rw [eC]; exact (hle25.set (b := h3.nx) (by omega) _).set (b := h3.nx + 1) (by omega) _
        · rw [eC]; exact (T.get_updne _ _ (by omega)).trans (T.get_upd_same _ _ _)
        · rw [eC]; exact T.get_upd_same _ _ _
        · rw [eC]; exact ((T.get_updne _ _ (by omega)).trans (T.get_updne _ _ (by omega))).trans g75
    | true =>
      simp(disch:=first|omega|(simp only[Wx];done)|(simp only[Wy];done)|(simp only[Wv];omega)|with_unfolding_all rfl)only[Wz,ptrTo,sliceTo]
      obtain ⟨hC, eC⟩ : ∃ hC : Heap, hC = ⟨h5.nx, h5.bl.upd (h3.nx + 1) (blkR ⟨id, x, m, m, 0⟩), h5.lo⟩ := ⟨_, rfl⟩
      refine ⟨fun l h' => HQ hC h', ?_, ?_⟩
      · simp(disch:=first|omega|(simp only[Wx];done)|(simp only[Wy];done)|(simp only[Wv];omega)|with_unfolding_all rfl)only[Wz,ptrTo,sliceTo, g355]
        exact eC
      · intro l h' hq'
        cases (show hC = h' from hq')
        have nC : hC.nx = h5.nx := by rw [eC]
        refine fin ⟨id, x, m, m, 0⟩ w true hC ?_ ?_ ?_ ?_ (by omega) ?_ ?_ ?_
        · unfold askR
          rw [if_pos]
          simp [hf, hfit]
        · rw [eC]
          exact Own.put ho5 (by rw [g355]; exact cells_op) _
        · rw [eC]; exact hall5.set (b := h3.nx + 1) (by omega) _
        · rw [eC]; exact hle25.set (b := h3.nx + 1) (by omega) _
        · rw [eC]; exact (T.get_updne _ _ (by omega)).trans g295
        · rw [eC]; exact T.get_upd_same _ _ _
        · rw [eC]; exact (T.get_updne _ _ (by omega)).trans g75
end Go.Proofs

namespace Go.Proofs
open Go.Vai Go.Clashes
noncomputable abbrev viewO (t r : Int) (q : Value) (w : Int) : AObj := cellsO [.int .i64 t, .int .i64 r, q, .int .i64 w] 129 false
noncomputable abbrev headO (t r : Int) (q : Value) (w : Int) : AObj := cellsO [.int .i64 t, .int .i64 r, q, .int .i64 w] 56 false
noncomputable abbrev head0 : AObj := cellsO [.int .i64 0, .int .i64 0, .slice none 0 0, .int .i64 0] 56 false
theorem without1_w (id : Int) (r : R5) (b : Nat) (h : Heap) (κ : Value → Heap → Prop) (hlo : h.lo ≤ h.nx) (hb : b < h.nx) (hg : h.bl.get b = some (cellsO [.int .i64 id] 3 false)) (hk : ∀ h', Le h h' → κ (.bool (placeR id r)) h') :
    CallW Tryz.prog 122 [aggR r, ptrTo b] h κ := by
  have hk := hk _ ((Le.refl h).new (blkR r))
  refine callW_of mixed ?_
  rw [rs_122]
  simp(disch:=first|omega|(simp only[Wx];done)|(simp only[Wy];done)|(simp only[Wv];omega)|with_unfolding_all rfl)only[Wz,ptrTo,sliceTo, enc5, hg]
  exact hk
theorem without_w (t r : Int) (q : Value) (w id : Int) (Q : List R5) (a h : Heap) (κ : Value → Heap → Prop) (ho : OwnR a h q Q) (hle : Le a h) (hlen : Q.length ≤ 100000) (hlo : a.lo ≤ a.nx)
    (hk : ∀ q' h', Sl enc5 h' q' (Q.filter fun r => !placeR id r) → TyS 47 h' q' → Le a h' → κ (hdV t r q' w) h') :
    CallW Tryz.prog 99 [hdV t r q w, .int .i64 id] h κ := by
  obtain ⟨qx, qc, rfl, _⟩ := (show Sl enc5 h q Q from ho.sl)
  have n_0 := hle.nx
  have l_0 := hle.lo
  refine callW_of mixed ?_
  rw [rs_99]
  simp(disch:=first|omega|(simp only[Wx];done)|(simp only[Wy];done)|(simp only[Wv];omega)|with_unfolding_all rfl)only[Wz,ptrTo,sliceTo, hdV]
  obtain ⟨hA, e_hA⟩ : ∃ hA : Heap, hA = ⟨h.nx + 1 + 1 + 1, (((h.bl.upd (h.nx) (viewO t r (.slice qx Q.length qc) w)).upd (h.nx + 1) (cellsO [.int .i64 id] 3 false)).upd (h.nx + 1 + 1) (head0)), h.lo⟩ := ⟨_, rfl⟩
  have le_hA : Le h hA := by subst e_hA; exact ((((Le.refl h).new _).new _).new _)
  have g1 : hA.bl.get (h.nx) = some (viewO t r (.slice qx Q.length qc) w) := by subst e_hA; exact (T.get_updne _ _ (by omega)).trans ((T.get_updne _ _ (by omega)).trans (T.get_upd_same _ _ _))
  have g3 : hA.bl.get (h.nx + 1) = some (cellsO [.int .i64 id] 3 false) := by subst e_hA; exact (T.get_updne _ _ (by omega)).trans (T.get_upd_same _ _ _)
  have g5 : hA.bl.get (h.nx + 1 + 1) = some (head0) := by subst e_hA; exact T.get_upd_same _ _ _
  have n_hA : hA.nx = h.nx + 1 + 1 + 1 := by subst e_hA; rfl
  have l_hA : hA.lo = h.lo := by subst e_hA; rfl
  rw [← e_hA]
  clear e_hA
  refine deleteR_w a hA Q (placeR id) _ _ _ (hle.trans le_hA) (ho.le le_hA) hlen hlo ?_ ?_
  · intro p h1 κ1 hl1 hfr hk1
    have n1 := hfr.1
    have l1 := hl1.lo
    have g3 := (hfr.2 (h.nx + 1) (by omega) (by rw [g3]; exact cells_op)).trans g3
    simp(disch:=first|omega|(simp only[Wx];done)|(simp only[Wy];done)|(simp only[Wv];omega)|with_unfolding_all rfl)only[Wz,ptrTo,sliceTo, List.nil_append, List.cons_append]
    exact without1_w id p (h.nx + 1) h1 κ1 (by omega) (by omega) g3 hk1
  · intro q' h2 hs2 _ hle2 hfr ht
    have n2 := hfr.1
    have l2 := hle2.lo
    have g1 := (hfr.2 h.nx (by omega) (by rw [g1]; exact cells_op)).trans g1
    have g5 := (hfr.2 (h.nx + 1 + 1) (by omega) (by rw [g5]; exact cells_op)).trans g5
    obtain ⟨qx', qc', rfl, _⟩ := (show Sl enc5 h2 q' _ from hs2)
    simp(disch:=first|omega|(simp only[Wx];done)|(simp only[Wy];done)|(simp only[Wv];omega)|with_unfolding_all rfl)only[Wz,ptrTo,sliceTo, g1, g5]
    have hd1 : ∀ vs op, h2.bl.get h.nx ≠ some (cellsO vs 47 op) := fun vs op => by rw [g1]; exact cells_ty (by decide)
    have hs3 := hs2.put ht hd1 (viewO t r (.slice qx' (Q.filter fun r => !placeR id r).length qc') w)
    have ht3 := ht.put hd1 (viewO t r (.slice qx' (Q.filter fun r => !placeR id r).length qc') w)
    have hd2 : ∀ vs op, (h2.bl.upd h.nx (viewO t r (.slice qx' (Q.filter fun r => !placeR id r).length qc') w)).get (h.nx + 1 + 1) ≠ some (cellsO vs 47 op) := fun vs op => by rw [T.get_updne _ _ (by omega), g5]; exact cells_ty (by decide)
    refine hk _ _ (hs3.put ht3 hd2 _) (ht3.put hd2 _) ((hle2.set (b := h.nx) (by omega) _).set (b := h.nx + 1 + 1) (by omega) _)
end Go.Proofs

namespace Go.Proofs
open Go.Vai Go.Clashes
def QV (h : Heap) (q : Value) (Q : List R5) : Prop := Sl enc5 h q Q ∧ TyS 47 h q
theorem QV.le {h h' : Heap} {q : Value} {Q : List R5} (v : QV h q Q) (l : Le h h') : QV h' q Q := ⟨v.1.le l, v.2.le l⟩
theorem QV.put {h : Heap} {q : Value} {Q : List R5} (v : QV h q Q) {d : Nat} (hd : ∀ vs op, h.bl.get d ≠ some (cellsO vs 47 op)) (o : AObj) : QV ⟨h.nx, h.bl.upd d o, h.lo⟩ q Q := ⟨v.1.put v.2 hd o, v.2.put hd o⟩
theorem QV.own {a h : Heap} {q : Value} {Q : List R5} (ho : OwnR a h q Q) : QV h q Q := ⟨ho.sl, TyS.own ho⟩
theorem place_cases (Q : List R5) (id : Int) : (Q.findIdx? (placeR id) = none ∧ findQ Q id = none) ∨ ∃ (i : Nat) (r : R5), Q.findIdx? (placeR id) = some i ∧ Q[i]? = some r ∧ r.id = id ∧ findQ Q id = some r := by
  rcases find_cases Q (placeR id) with ⟨e, h⟩ | ⟨i, p, e, hp, h1, h2⟩
  · refine .inl ⟨e, ?_⟩
    unfold findQ
    rw [List.find?_eq_none]
    intro x hx; rw [h x hx]; simp
  · refine .inr ⟨i, p, e, hp, by simpa [placeR] using h1, ?_⟩
    unfold findQ
    rw [List.find?_eq_some_iff_getElem]
    obtain ⟨hi, rfl⟩ := List.getElem?_eq_some_iff.1 hp
    exact ⟨h1, i, hi, rfl, fun j hj => by rw [h2 j _ hj (List.getElem?_eq_getElem (by omega))]; rfl⟩
theorem leave_w (t r : Int) (q : Value) (w id : Int) (Q : List R5) (h : Heap) (κ : Value → Heap → Prop) (hq : Sl enc5 h q Q) (hlen : Q.length ≤ 100000) (hlo : h.lo ≤ h.nx) (hf : findQ Q id ≠ none)
    (hk : ∀ q' h', QV h' q' (Q.filter fun r => !placeR id r) → Le h h' → κ (.tuple ⟨[hdV t r q' w, .int .i64 0]⟩) h') :
    CallW Tryz.prog 68 [hdV t r q w, .int .i64 id] h κ := by
  obtain ⟨qx, qc, rfl, _⟩ := (show Sl enc5 h q Q from hq)
  refine callW_of mixed ?_
  rw [rs_68]
  simp(disch:=first|omega|(simp only[Wx];done)|(simp only[Wy];done)|(simp only[Wv];omega)|with_unfolding_all rfl)only[Wz,ptrTo,sliceTo, hdV]
  obtain ⟨hA, e_hA⟩ : ∃ hA : Heap, hA = ⟨h.nx + 1 + 1, ((h.bl.upd (h.nx) (headO t r (.slice qx Q.length qc) w)).upd (h.nx + 1) (head0)), h.lo⟩ := ⟨_, rfl⟩
  have le_hA : Le h hA := by subst e_hA; exact (((Le.refl h).new _).new _)
  have g1 : hA.bl.get (h.nx) = some (headO t r (.slice qx Q.length qc) w) := by subst e_hA; exact (T.get_updne _ _ (by omega)).trans (T.get_upd_same _ _ _)
  have g3 : hA.bl.get (h.nx + 1) = some (head0) := by subst e_hA; exact T.get_upd_same _ _ _
  have n_hA : hA.nx = h.nx + 1 + 1 := by subst e_hA; rfl
  have l_hA : hA.lo = h.lo := by subst e_hA; rfl
  rw [← e_hA]
  clear e_hA
  have g3A := g3
  refine own_w t r _ w Q hA _ (hq.le le_hA) (by omega) (by omega) ?_
  intro q2 h2 ho2 hle2
  have n_hle2 := hle2.nx
  have l_hle2 := hle2.lo
  have g1 := (hle2.get _ (by omega)).trans g1
  have g3 := (hle2.get _ (by omega)).trans g3
  obtain ⟨qx2, qc2, rfl, _⟩ := (show Sl enc5 h2 q2 Q from ho2.sl)
  simp(disch:=first|omega|(simp only[Wx];done)|(simp only[Wy];done)|(simp only[Wv];omega)|with_unfolding_all rfl)only[Wz,ptrTo,sliceTo, hdV]
  obtain ⟨hB, e_hB⟩ : ∃ hB : Heap, hB = ⟨h2.nx + 1, (h2.bl.upd (h2.nx) (viewO t r (.slice qx2 Q.length qc2) w)), h2.lo⟩ := ⟨_, rfl⟩
  have le_hB : Le h2 hB := by subst e_hB; exact ((Le.refl h2).new _)
  have g7 : hB.bl.get (h2.nx) = some (viewO t r (.slice qx2 Q.length qc2) w) := by subst e_hB; exact T.get_upd_same _ _ _
  have n_hB : hB.nx = h2.nx + 1 := by subst e_hB; rfl
  have l_hB : hB.lo = h2.lo := by subst e_hB; rfl
  rw [← e_hB]
  clear e_hB
  have n_le_hB := le_hB.nx
  have l_le_hB := le_hB.lo
  have g1 := (le_hB.get _ (by omega)).trans g1
  have g3 := (le_hB.get _ (by omega)).trans g3
  have hoB := ho2.le le_hB
  refine placeQ_w t r _ w id Q hB _ hoB.sl (by omega) (by omega) ?_
  intro h3 hle3
  have n_hle3 := hle3.nx
  have l_hle3 := hle3.lo
  have g1 := (hle3.get _ (by omega)).trans g1
  have g3 := (hle3.get _ (by omega)).trans g3
  have g7 := (hle3.get _ (by omega)).trans g7
  have ho3 := hoB.le hle3
  rcases place_cases Q id with ⟨_, e⟩ | ⟨i, p, e, hp, hpid, _⟩
  · exact absurd e hf
  rw [e]
  simp(disch:=first|omega|(simp only[Wx];done)|(simp only[Wy];done)|(simp only[Wv];omega)|with_unfolding_all rfl)only[Wz,ptrTo,sliceTo, optI, lt_f (show (0 : Int) ≤ (i : Int) by omega), g7]
  have hle23 : Le hA h3 := (hle2.trans le_hB).trans hle3
  refine without_w t r _ w id Q hA h3 _ ho3 hle23 hlen (by omega) ?_
  intro q4 h4 hs4 ht4 hle4
  have n_hle4 := hle4.nx
  have l_hle4 := hle4.lo
  have g3 := (hle4.get _ (by omega)).trans g3A
  obtain ⟨qx4, qc4, rfl, _⟩ := (show Sl enc5 h4 q4 _ from hs4)
  simp(disch:=first|omega|(simp only[Wx];done)|(simp only[Wy];done)|(simp only[Wv];omega)|with_unfolding_all rfl)only[Wz,ptrTo,sliceTo, hdV, g3]
  exact hk _ _ (QV.put ⟨hs4, ht4⟩ (fun vs op => by rw [g3]; exact cells_ty (by decide)) _) ((le_hA.trans hle4).set (b := h.nx + 1) (by omega) _)
theorem hand1_w (id x : Int) (r : R5) (b3 b5 : Nat) (h : Heap) (κ : Value → Heap → Prop) (hlo : h.lo ≤ h.nx) (hb3 : b3 < h.nx) (hb5 : b5 < h.nx) (hg3 : h.bl.get b3 = some (cellsO [.int .i64 id] 3 false)) (hg5 : h.bl.get b5 = some (cellsO [.int .i64 x] 3 false))
    (hk : ∀ h', Le h h' → κ (.bool (decide (r.id ≠ id) && decide (r.x = x))) h') : CallW Tryz.prog 109 [aggR r, ptrTo b3, ptrTo b5] h κ := by
  have hk := hk _ ((Le.refl h).new (blkR r))
  refine callW_of mixed ?_
  rw [rs_109]
  by_cases h1 : r.id = id
  · simp(disch:=first|omega|(simp only[Wx];done)|(simp only[Wy];done)|(simp only[Wv];omega)|with_unfolding_all rfl)only[Wz,ptrTo,sliceTo, enc5, hg3, hg5, dec_t h1]
    rw [dec_f (show ¬ r.id ≠ id by simp [h1])] at hk
    exact hk
  · simp(disch:=first|omega|(simp only[Wx];done)|(simp only[Wy];done)|(simp only[Wv];omega)|with_unfolding_all rfl)only[Wz,ptrTo,sliceTo, enc5, hg3, hg5, dec_f h1]
    rw [dec_t (show r.id ≠ id from h1)] at hk
    exact hk
theorem QV.blk {h : Heap} {b n : Nat} {L : List R5} (hb : b < h.nx) (hg : h.bl.get b = some (cellsO (L.flatMap enc5) 47 true)) (hn : n = L.length) : QV h (.slice (some ⟨b, 0, none⟩) n openCap) L := by
  subst hn
  refine ⟨Sl.new hb hg _, fun b' o' n' c' hv _ => ?_⟩
  cases hv
  exact ⟨hb, _, _, hg⟩
theorem hand_w (t r : Int) (q : Value) (w id x : Int) (Q : List R5) (h : Heap) (κ : Value → Heap → Prop) (hq : Sl enc5 h q Q) (hlen : Q.length ≤ 100000) (hlo : h.lo ≤ h.nx) (hp : Q.Pairwise Beside) {i : Nat} {p : R5} (hi : Q[i]? = some p) (hid : p.id = id)
    (hk1 : (∃ o ∈ Q, o.id ≠ id ∧ o.x = x) → ∀ h', Le h h' → κ (.tuple ⟨[hdV 0 0 (.slice none 0 0) 0, .int .i64 4]⟩) h')
    (hk2 : (∀ o ∈ Q, o.id ≠ id → o.x ≠ x) → 0 < p.s → ∀ h', Le h h' → κ (.tuple ⟨[hdV 0 0 (.slice none 0 0) 0, .int .i64 7]⟩) h')
    (hk3 : (∀ o ∈ Q, o.id ≠ id → o.x ≠ x) → ¬ 0 < p.s → ∀ q' h', QV h' q' (Q.set i (handR p x)) → Le h h' → κ (.tuple ⟨[hdV t r q' w, .int .i64 0]⟩) h') :
    CallW Tryz.prog 78 [hdV t r q w, .int .i64 id, .int .i64 x] h κ := by
  obtain ⟨qx, qc, rfl, _⟩ := (show Sl enc5 h q Q from hq)
  refine callW_of mixed ?_
  rw [rs_78]
  simp(disch:=first|omega|(simp only[Wx];done)|(simp only[Wy];done)|(simp only[Wv];omega)|with_unfolding_all rfl)only[Wz,ptrTo,sliceTo, hdV]
  obtain ⟨hA, e_hA⟩ : ∃ hA : Heap, hA = ⟨h.nx + 1 + 1 + 1 + 1, ((((h.bl.upd (h.nx) (headO t r (.slice qx Q.length qc) w)).upd (h.nx + 1) (cellsO [.int .i64 id] 3 false)).upd (h.nx + 1 + 1) (cellsO [.int .i64 x] 3 false)).upd (h.nx + 1 + 1 + 1) (head0)), h.lo⟩ := ⟨_, rfl⟩
  have le_hA : Le h hA := by subst e_hA; exact (((((Le.refl h).new _).new _).new _).new _)
  have g1 : hA.bl.get (h.nx) = some (headO t r (.slice qx Q.length qc) w) := by subst e_hA; exact (T.get_updne _ _ (by omega)).trans ((T.get_updne _ _ (by omega)).trans ((T.get_updne _ _ (by omega)).trans (T.get_upd_same _ _ _)))
  have g3 : hA.bl.get (h.nx + 1) = some (cellsO [.int .i64 id] 3 false) := by subst e_hA; exact (T.get_updne _ _ (by omega)).trans ((T.get_updne _ _ (by omega)).trans (T.get_upd_same _ _ _))
  have g5 : hA.bl.get (h.nx + 1 + 1) = some (cellsO [.int .i64 x] 3 false) := by subst e_hA; exact (T.get_updne _ _ (by omega)).trans (T.get_upd_same _ _ _)
  have g7 : hA.bl.get (h.nx + 1 + 1 + 1) = some (head0) := by subst e_hA; exact T.get_upd_same _ _ _
  have n_hA : hA.nx = h.nx + 1 + 1 + 1 + 1 := by subst e_hA; rfl
  have l_hA : hA.lo = h.lo := by subst e_hA; rfl
  rw [← e_hA]
  clear e_hA
  refine own_w t r _ w Q hA _ (hq.le le_hA) (by omega) (by omega) ?_
  intro q2 h2 ho2 hle2
  have n_hle2 := hle2.nx
  have l_hle2 := hle2.lo
  have g3 := (hle2.get _ (by omega)).trans g3
  have g5 := (hle2.get _ (by omega)).trans g5
  have g7 := (hle2.get _ (by omega)).trans g7
  obtain ⟨qx2, qc2, rfl, _⟩ := (show Sl enc5 h2 q2 Q from ho2.sl)
  simp(disch:=first|omega|(simp only[Wx];done)|(simp only[Wy];done)|(simp only[Wv];omega)|with_unfolding_all rfl)only[Wz,ptrTo,sliceTo, hdV, g3]
  obtain ⟨hB, e_hB⟩ : ∃ hB : Heap, hB = ⟨h2.nx + 1, (h2.bl.upd (h2.nx) (viewO t r (.slice qx2 Q.length qc2) w)), h2.lo⟩ := ⟨_, rfl⟩
  have le_hB : Le h2 hB := by subst e_hB; exact ((Le.refl h2).new _)
  have g11 : hB.bl.get (h2.nx) = some (viewO t r (.slice qx2 Q.length qc2) w) := by subst e_hB; exact T.get_upd_same _ _ _
  have n_hB : hB.nx = h2.nx + 1 := by subst e_hB; rfl
  have l_hB : hB.lo = h2.lo := by subst e_hB; rfl
  rw [← e_hB]
  clear e_hB
  have n_le_hB := le_hB.nx
  have l_le_hB := le_hB.lo
  have g3 := (le_hB.get _ (by omega)).trans g3
  have g5 := (le_hB.get _ (by omega)).trans g5
  have g7 := (le_hB.get _ (by omega)).trans g7
  have hoB := ho2.le le_hB
  refine placeQ_w t r _ w id Q hB _ hoB.sl (by omega) (by omega) ?_
  intro h3 hle3
  have n_hle3 := hle3.nx
  have l_hle3 := hle3.lo
  have g3 := (hle3.get _ (by omega)).trans g3
  have g5 := (hle3.get _ (by omega)).trans g5
  have g7 := (hle3.get _ (by omega)).trans g7
  have g11 := (hle3.get _ (by omega)).trans g11
  have ho3 := hoB.le hle3
  have hall3 : Le h h3 := ((le_hA.trans hle2).trans le_hB).trans hle3
  rcases place_cases Q id with ⟨_, e⟩ | ⟨j, p', e, hj, hjd, _⟩
  · exact absurd hid (findQ_none e p (List.mem_of_getElem? hi))
  have hij : j = i := ids_at hp hj hi (by rw [hjd, hid])
  subst hij
  rw [hi] at hj; cases hj
  rw [e]
  simp(disch:=first|omega|(simp only[Wx];done)|(simp only[Wy];done)|(simp only[Wv];omega)|with_unfolding_all rfl)only[Wz,ptrTo,sliceTo, optI, lt_f (show (0 : Int) ≤ (j : Int) by omega), rs_78_2, g11]
  refine containsR_w Q (fun o => decide (o.id ≠ id) && decide (o.x = x)) h3 _ _ _ ho3.sl (by omega) ?_ ?_
  · intro o ho h4 κ4 hle4 hk4
    have n_hle4 := hle4.nx
    have l_hle4 := hle4.lo
    have g3 := (hle4.get _ (by omega)).trans g3
    have g5 := (hle4.get _ (by omega)).trans g5
    simp(disch:=first|omega|(simp only[Wx];done)|(simp only[Wy];done)|(simp only[Wv];omega)|with_unfolding_all rfl)only[Wz,ptrTo,sliceTo, List.nil_append, List.cons_append]
    exact hand1_w id x o (h.nx + 1) (h.nx + 1 + 1) h4 κ4 (by omega) (by omega) (by omega) g3 g5 hk4
  intro h4 hle4
  have n_hle4 := hle4.nx
  have l_hle4 := hle4.lo
  have g3 := (hle4.get _ (by omega)).trans g3
  have g5 := (hle4.get _ (by omega)).trans g5
  have g7 := (hle4.get _ (by omega)).trans g7
  have g11 := (hle4.get _ (by omega)).trans g11
  have ho4 := ho3.le hle4
  have hall4 := hall3.trans hle4
  cases hany : Q.any (fun o => decide (o.id ≠ id) && decide (o.x = x)) with
  | true =>
    simp(disch:=first|omega|(simp only[Wx];done)|(simp only[Wy];done)|(simp only[Wv];omega)|with_unfolding_all rfl)only[Wz,ptrTo,sliceTo, g7]
    rw [List.any_eq_true] at hany
    obtain ⟨o, ho, h1⟩ := hany
    simp only [Bool.and_eq_true, decide_eq_true_eq] at h1
    exact hk1 ⟨o, ho, h1⟩ _ (hall4.set (b := h.nx + 1 + 1 + 1) (by omega) _)
  | false =>
    have hno : ∀ o ∈ Q, o.id ≠ id → o.x ≠ x := by
      intro o ho h1 h2
      rw [List.any_eq_false] at hany
      have := hany o ho
      simp [h1, h2] at this
    obtain ⟨b, o, hb, hat, hld⟩ := ld5 ho4.sl j hi
    simp(disch:=first|omega|(simp only[Wx];done)|(simp only[Wy];done)|(simp only[Wv];omega)|with_unfolding_all rfl)only[Wz,ptrTo,sliceTo, rs_78_1, g11, hat, hld]
    refine waits_w p ?_
    by_cases hs : 0 < p.s
    · simp(disch:=first|omega|(simp only[Wx];done)|(simp only[Wy];done)|(simp only[Wv];omega)|with_unfolding_all rfl)only[Wz,ptrTo,sliceTo, dec_t hs, g7]
      exact hk2 hno hs _ (hall4.set (b := h.nx + 1 + 1 + 1) (by omega) _)
    · rcases ho4 with ⟨rfl, _⟩ | ⟨bo, e1, k1, k2, k3, k4⟩
      · simp at hi
      cases e1
      have hjl : j < Q.length := (List.getElem?_eq_some_iff.1 hi).1
      have hfl := flat_length (enc := enc5) enc5_len Q
      have hov := over_field (p' := handR p x) (ws := [.int .i64 x]) (j := 1) enc5_len hi (by show 1 + 1 ≤ 5; omega) rfl
      have hne1 : bo ≠ h2.nx := by rintro rfl; rw [g11] at k4; exact cells_op k4
      have hne2 : bo ≠ h.nx + 1 + 1 + 1 := by rintro rfl; rw [g7] at k4; exact cells_op k4
      simp(disch:=first|omega|(simp only[Wx];done)|(simp only[Wy];done)|(simp only[Wv];omega)|with_unfolding_all rfl)only[Wz,ptrTo,sliceTo, dec_f hs, rs_78_0, g11, g5, g7, indexAddr_eq, k4, hov]
      have k0 : hA.nx ≤ bo := k1
      refine hk3 hno hs _ _ (QV.blk (by show bo < h4.nx; omega) ((T.get_updne _ _ (fun e => hne2 e.symm)).trans (T.get_upd_same _ _ _)) (by simp)) ((hall4.set (b := bo) (by omega) _).set (b := h.nx + 1 + 1 + 1) (by omega) _)
end Go.Proofs

namespace Go.Proofs
open Go.Vai Go.Clashes
def encNum (n : Int) : List Value := [.int .i64 n]
theorem encNum_len (n : Int) : (encNum n).length = 1 := rfl
theorem encNum_one (n : Int) : (encNum n).all oneC = true := rfl
abbrev OwnI (a h : Heap) (v : Value) (L : List Int) : Prop := Own encNum a 3 h v L
theorem scan_unfold {Q : List R5} {W : Int} (v : VQ Q W) {i : Nat} {r : R5} (hf : firstQ Q = some i) (hr : Q[i]? = some r) (hfit : fitsQ Q r = true) :
    scanQ (cntW Q + 1) Q = ((scanQ (cntW (Q.set i (grantR r)) + 1) (Q.set i (grantR r))).1, r.id :: (scanQ (cntW (Q.set i (grantR r)) + 1) (Q.set i (grantR r))).2) := by
  have hc := cntW_grant hr (first_waits v hf hr)
  conv => lhs; unfold scanQ
  simp only [hf, hr, hfit, if_true]
  rw [hc]
theorem scan_end {Q : List R5} (h : stuckQ Q) : scanQ (cntW Q + 1) Q = (Q, []) := scan_stuck h _
theorem stuck_none {Q : List R5} (h : firstQ Q = none) : stuckQ Q := fun i r e => by rw [h] at e; cases e
theorem stuck_some {Q : List R5} {i : Nat} {r : R5} (h : firstQ Q = some i) (hr : Q[i]? = some r) (hf : fitsQ Q r = false) : stuckQ Q := fun j q e hq => by
  rw [h] at e; cases e; rw [hr] at hq; cases hq; exact hf
set_option maxHeartbeats 2000000 in
theorem scan_w (t r : Int) (q : Value) (w : Int) (Q : List R5) (h : Heap) (κ : Value → Heap → Prop) (hq : Sl enc5 h q Q) (hlen : Q.length ≤ 100000) (hlo : h.lo ≤ h.nx) (vq : VQ Q w)
    (hk : ∀ q' v' h', QV h' q' (scanQ (cntW Q + 1) Q).1 → OwnI h h' v' (scanQ (cntW Q + 1) Q).2 → Le h h' → κ (.tuple ⟨[hdV t r q' w, v']⟩) h') :
    CallW Tryz.prog 98 [hdV t r q w] h κ := by
  obtain ⟨qx, qc, rfl, _⟩ := (show Sl enc5 h q Q from hq)
  refine callW_of mixed ?_
  rw [rs_98]
  simp(disch:=first|omega|(simp only[Wx];done)|(simp only[Wy];done)|(simp only[Wv];omega)|with_unfolding_all rfl)only[Wz,ptrTo,sliceTo, hdV]
  obtain ⟨hA, e_hA⟩ : ∃ hA : Heap, hA = ⟨h.nx + 1 + 1, ((h.bl.upd (h.nx) (headO t r (.slice qx Q.length qc) w)).upd (h.nx + 1) (head0)), h.lo⟩ := ⟨_, rfl⟩
  have le_hA : Le h hA := by subst e_hA; exact (((Le.refl h).new _).new _)
  have g1 : hA.bl.get (h.nx) = some (headO t r (.slice qx Q.length qc) w) := by subst e_hA; exact (T.get_updne _ _ (by omega)).trans (T.get_upd_same _ _ _)
  have g3 : hA.bl.get (h.nx + 1) = some (head0) := by subst e_hA; exact T.get_upd_same _ _ _
  have n_hA : hA.nx = h.nx + 1 + 1 := by subst e_hA; rfl
  have l_hA : hA.lo = h.lo := by subst e_hA; rfl
  rw [← e_hA]
  clear e_hA
  refine own_w t r _ w Q hA _ (hq.le le_hA) (by omega) (by omega) ?_
  intro q2 h2 ho2 hle2
  have n_hle2 := hle2.nx
  have l_hle2 := hle2.lo
  have g3 := (hle2.get _ (by omega)).trans g3
  obtain ⟨qx2, qc2, rfl, _⟩ := (show Sl enc5 h2 q2 Q from ho2.sl)
  simp(disch:=first|omega|(simp only[Wx];done)|(simp only[Wy];done)|(simp only[Wv];omega)|with_unfolding_all rfl)only[Wz,ptrTo,sliceTo, hdV]
  obtain ⟨hB, e_hB⟩ : ∃ hB : Heap, hB = ⟨h2.nx + 1, (h2.bl.upd (h2.nx) (viewO t r (.slice qx2 Q.length qc2) w)), h2.lo⟩ := ⟨_, rfl⟩
  have le_hB : Le h2 hB := by subst e_hB; exact ((Le.refl h2).new _)
  have g7 : hB.bl.get (h2.nx) = some (viewO t r (.slice qx2 Q.length qc2) w) := by subst e_hB; exact T.get_upd_same _ _ _
  have n_hB : hB.nx = h2.nx + 1 := by subst e_hB; rfl
  have l_hB : hB.lo = h2.lo := by subst e_hB; rfl
  rw [← e_hB]
  clear e_hB
  have n_le_hB := le_hB.nx
  have l_le_hB := le_hB.lo
  have g3 := (le_hB.get _ (by omega)).trans g3
  have hoB := ho2.le le_hB
  have hallB : Le h hB := (le_hA.trans hle2).trans le_hB
  refine ⟨fun n l h1 => ∃ (K : List R5) (ids : List Int), VQ K w ∧ n = cntW K + 1 ∧ scanQ (cntW Q + 1) Q = ((scanQ (cntW K + 1) K).1, ids ++ (scanQ (cntW K + 1) K).2) ∧ K.length = Q.length ∧ ids.length + cntW K ≤ cntW Q ∧
      OwnI h h1 (slot l 49) ids ∧ (OwnR hA h1 (.slice qx2 K.length qc2) K) ∧ h1.bl.get (h.nx + 1) = some head0 ∧ h1.bl.get h2.nx = some (viewO t r (.slice qx2 Q.length qc2) w) ∧ Le h h1 ∧ hB.nx ≤ h1.nx,
    ⟨_, Q, [], vq, rfl, by simp, rfl, by simp, .inl ⟨rfl, .inl rfl⟩, hoB, g3, g7, hallB, Nat.le_refl _⟩, ?_⟩
  rintro n l h3 ⟨K, ids, vk, rfl, hsc, hKl, hcn, hoI, hoK, g3, g7, hle3, n3⟩
  have l3 := hle3.lo
  obtain ⟨vi, ei⟩ : ∃ vi, slot l 49 = vi := ⟨_, rfl⟩
  rw [ei] at hoI
  rw [hKl] at hoK
  have hcK : cntW K ≤ K.length := List.length_filter_le _ _
  have hcQ : cntW Q ≤ Q.length := List.length_filter_le _ _
  simp(disch:=first|omega|(simp only[Wx];done)|(simp only[Wy];done)|(simp only[Wv];omega)|with_unfolding_all rfl)only[Wz,ptrTo,sliceTo, rs_98_1, g7]
  refine firstQ_w t r _ w K h3 _ hoK.sl (by omega) (by omega) ?_
  intro h4 hle4
  have n_hle4 := hle4.nx
  have l_hle4 := hle4.lo
  have g3 := (hle4.get _ (by omega)).trans g3
  have g7 := (hle4.get _ (by omega)).trans g7
  have hoK4 := hoK.le hle4
  have hoI4 := hoI.le hle4
  have hall4 := hle3.trans hle4
  have finish : ∀ h', h4.nx ≤ h'.nx → Le h h' → OwnI h h' vi ids → OwnR hA h' (.slice qx2 Q.length qc2) K → h'.bl.get (h.nx + 1) = some head0 → stuckQ K → κ (.tuple ⟨[.agg ⟨[.int .i64 t, .int .i64 r, .slice qx2 Q.length qc2, .int .i64 w]⟩, vi]⟩) ⟨h'.nx, h'.bl.upd (h.nx + 1) (headO t r (.slice qx2 Q.length qc2) w), h'.lo⟩ := by
    intro h' hn hl hi hr hg hst
    rw [scan_end hst] at hsc
    rw [hsc, List.append_nil] at hk
    exact hk _ _ _ (QV.put (QV.own hr) (fun vs op => by rw [hg]; exact cells_ty (by decide)) _) (Own.put hi (by rw [hg]; exact cells_op) _) (hl.set (b := h.nx + 1) (by omega) _)
  cases hf : firstQ K with
  | none =>
    simp(disch:=first|omega|(simp only[Wx];done)|(simp only[Wy];done)|(simp only[Wv];omega)|with_unfolding_all rfl)only[Wz,ptrTo,sliceTo, optI, lt_t (show (-1 : Int) < 0 by decide), g7, g3, ei]
    exact finish h4 (Nat.le_refl _) hall4 hoI4 hoK4 g3 (stuck_none hf)
  | some i =>
    obtain ⟨p, hp, _⟩ := first_some hf
    obtain ⟨b, o, hb, hat, hld⟩ := ld5 hoK4.sl i hp
    simp(disch:=first|omega|(simp only[Wx];done)|(simp only[Wy];done)|(simp only[Wv];omega)|with_unfolding_all rfl)only[Wz,ptrTo,sliceTo, optI, lt_f (show (0 : Int) ≤ (i : Int) by omega), g7, hat, hld, List.append_nil, List.cons_append, List.nil_append]
    refine fitsQ_w t r _ w p K h4 _ hoK4.sl (by omega) (by omega) ?_
    intro h5 hle5
    have n_hle5 := hle5.nx
    have l_hle5 := hle5.lo
    have g3 := (hle5.get _ (by omega)).trans g3
    have g7 := (hle5.get _ (by omega)).trans g7
    have hoK5 := hoK4.le hle5
    have hoI5 := hoI4.le hle5
    have hall5 := hall4.trans hle5
    cases hfit : fitsQ K p with
    | false =>
      simp(disch:=first|omega|(simp only[Wx];done)|(simp only[Wy];done)|(simp only[Wv];omega)|with_unfolding_all rfl)only[Wz,ptrTo,sliceTo, g7, g3, ei]
      exact finish h5 (by omega) hall5 hoI5 hoK5 g3 (stuck_some hf hp hfit)
    | true =>
      rcases hoK5 with ⟨rfl, _⟩ | ⟨bo, e1, k1, k2, k3, k4⟩
      · simp at hp
      rw [hKl] at e1
      cases e1
      have hil : i < K.length := (List.getElem?_eq_some_iff.1 hp).1
      have hfl := flat_length (enc := enc5) enc5_len K
      have hfl2 : ((K.set i ⟨p.id, p.x, p.w, p.w, p.s⟩).flatMap enc5).length = K.length * 5 := by rw [flat_length enc5_len, List.length_set]
      have hov := over_field (p' := ⟨p.id, p.x, p.w, p.w, p.s⟩) (ws := [.int .i64 p.w]) (j := 2) enc5_len hp (by show 2 + 1 ≤ 5; omega) rfl
      have hp2 : (K.set i ⟨p.id, p.x, p.w, p.w, p.s⟩)[i]? = some ⟨p.id, p.x, p.w, p.w, p.s⟩ := by rw [List.getElem?_set, if_pos rfl, if_pos hil]
      have hov2 := over_field (p' := grantR p) (ws := [.int .i64 0]) (j := 4) enc5_len hp2 (by show 4 + 1 ≤ 5; omega) rfl
      rw [List.set_set] at hov2
      have hne1 : bo ≠ h2.nx := by rintro rfl; rw [g7] at k4; exact cells_op k4
      have hne2 : bo ≠ h.nx + 1 := by rintro rfl; rw [g3] at k4; exact cells_op k4
      have hsl : (K.set i (grantR p)).length = K.length := List.length_set
      rw [hKl] at hsl
      have hp3 : (K.set i (grantR p))[i]? = some (grantR p) := by rw [List.getElem?_set, if_pos rfl, if_pos hil]
      have r3 := flat_read (j := 3) enc5_len hp (by decide)
      have r0 := flat_read (j := 0) enc5_len hp3 (by decide)
      have r3 : (K.flatMap enc5)[i * 5 + 3]? = some (.int .i64 p.w) := r3
      have r0 : ((K.set i (grantR p)).flatMap enc5)[i * 5]? = some (.int .i64 p.id) := r0
      simp(disch:=first|omega|(simp only[Wx];done)|(simp only[Wy];done)|(simp only[Wv];omega)|with_unfolding_all rfl)only[Wz,ptrTo,sliceTo, rs_98_0, g7, indexAddr_eq, k4, hov, hov2, ei, r3, r0]
      obtain ⟨hC, eC⟩ : ∃ hC : Heap, hC = ⟨h5.nx, h5.bl.upd bo (cellsO ((K.set i (grantR p)).flatMap enc5) 47 true), h5.lo⟩ := ⟨_, rfl⟩
      have hleC : Le h hC := by subst eC; exact hall5.set (b := bo) (by omega) _
      have nC : hC.nx = h5.nx := by rw [eC]
      have lC : hC.lo = h5.lo := by rw [eC]
      have gC : hC.bl.get bo = some (cellsO ((K.set i (grantR p)).flatMap enc5) 47 true) := by subst eC; exact T.get_upd_same _ _ _
      have g3C : hC.bl.get (h.nx + 1) = some head0 := by subst eC; exact (T.get_updne _ _ hne2).trans g3
      have g7C : hC.bl.get h2.nx = some (viewO t r (.slice (some ⟨bo, 0, none⟩) Q.length openCap) w) := by subst eC; exact (T.get_updne _ _ hne1).trans g7
      have hoC : OwnI h hC vi ids := by subst eC; exact Own.put hoI5 (by rw [k4]; exact cells_ty (by decide)) _
      have e2 : (⟨h5.nx + 1, (h5.bl.upd bo (cellsO ((K.set i (grantR p)).flatMap enc5) 47 true)).upd h5.nx (cellsO [.int .i64 p.id] 3 false), h5.lo⟩ : Heap) = ⟨hC.nx + 1, hC.bl.upd hC.nx (cellsO [.int .i64 p.id] 3 false), hC.lo⟩ := by rw [eC]
      rw [e2, show h5.nx = hC.nx from nC.symm]
      have hle1 := (Le.refl hC).new (cellsO [.int .i64 p.id] 3 false)
      have vk2 := vk.grant hf hp hfit
      have hcg := cntW_grant hp (first_waits vk hf hp)
      refine append_in (enc := encNum) (a := h) (L := ids) (M := [p.id]) encNum_len encNum_one (by decide) (by decide) (hoC.le hle1) (Sl.new (L := [p.id]) (e := 3) (op := false) (Nat.lt_succ_self _) (T.get_upd_same _ _ _) _) (hleC.new _) (by simp; omega) (by show hC.lo ≤ hC.nx + 1; omega) _ ?_
      intro v' h6 ho6 hle6 hn1 hn2 hl6 hsame
      have n6 : hC.nx + 1 ≤ h6.nx := hn2
      have keep : ∀ c o', c < hC.nx → hC.bl.get c = some o' → some o' ≠ some (cellsO (ids.flatMap encNum) 3 true) → h6.bl.get c = some o' := by
        intro c o' hc hg hne
        have e : (hC.bl.upd hC.nx (cellsO [.int .i64 p.id] 3 false)).get c = hC.bl.get c := T.get_updne _ _ (by omega)
        exact (hsame c (Nat.lt_succ_of_lt hc) (fun k => hne (by rw [← hg, ← e]; exact k))).trans (e.trans hg)
      have hl6' : h6.lo = hC.lo := hl6
      refine ⟨_, by omega, K.set i (grantR p), ids ++ [p.id], vk2, rfl, ?_, by simpa using hKl, by simp; omega, ho6, ?_, ?_, ?_, hle6, by omega⟩
      · rw [hsc, scan_unfold vk hf hp hfit]
        simp
      · refine .inr ⟨bo, rfl, by omega, by omega, by omega, keep bo _ (by omega) gC (cells_ty (by decide))⟩
      · exact keep _ _ (by omega) g3C (cells_ty (by decide))
      · exact keep _ _ (by omega) g7C (cells_ty (by decide))
end Go.Proofs

namespace Go.Proofs
open Go.Vai Go.Clashes
theorem abandon_w (t r : Int) (q : Value) (w id : Int) (Q : List R5) (h : Heap) (κ : Value → Heap → Prop) (hq : Sl enc5 h q Q) (hlen : Q.length ≤ 100000) (hlo : h.lo ≤ h.nx) (hp : Q.Pairwise Beside) {i : Nat} {p : R5} (hi : Q[i]? = some p) (hid : p.id = id)
    (hk1 : ¬ 0 < p.s → ∀ h', Le h h' → κ (.tuple ⟨[hdV 0 0 (.slice none 0 0) 0, .int .i64 7]⟩) h')
    (hk2 : 0 < p.s → p.m = 0 → ∀ q' h', QV h' q' (Q.filter fun r => !placeR id r) → Le h h' → κ (.tuple ⟨[hdV t r q' w, .int .i64 0]⟩) h')
    (hk3 : 0 < p.s → p.m ≠ 0 → ∀ q' h', QV h' q' (Q.set i (backR p)) → Le h h' → κ (.tuple ⟨[hdV t r q' w, .int .i64 0]⟩) h') :
    CallW Tryz.prog 76 [hdV t r q w, .int .i64 id] h κ := by
  obtain ⟨qx, qc, rfl, _⟩ := (show Sl enc5 h q Q from hq)
  refine callW_of mixed ?_
  rw [rs_76]
  simp(disch:=first|omega|(simp only[Wx];done)|(simp only[Wy];done)|(simp only[Wv];omega)|with_unfolding_all rfl)only[Wz,ptrTo,sliceTo, hdV]
  obtain ⟨hA, e_hA⟩ : ∃ hA : Heap, hA = ⟨h.nx + 1 + 1, ((h.bl.upd (h.nx) (headO t r (.slice qx Q.length qc) w)).upd (h.nx + 1) (head0)), h.lo⟩ := ⟨_, rfl⟩
  have le_hA : Le h hA := by subst e_hA; exact (((Le.refl h).new _).new _)
  have g1 : hA.bl.get (h.nx) = some (headO t r (.slice qx Q.length qc) w) := by subst e_hA; exact (T.get_updne _ _ (by omega)).trans (T.get_upd_same _ _ _)
  have g3 : hA.bl.get (h.nx + 1) = some (head0) := by subst e_hA; exact T.get_upd_same _ _ _
  have n_hA : hA.nx = h.nx + 1 + 1 := by subst e_hA; rfl
  have l_hA : hA.lo = h.lo := by subst e_hA; rfl
  rw [← e_hA]
  clear e_hA
  have g3A := g3
  refine own_w t r _ w Q hA _ (hq.le le_hA) (by omega) (by omega) ?_
  intro q2 h2 ho2 hle2
  have n_hle2 := hle2.nx
  have l_hle2 := hle2.lo
  have g3 := (hle2.get _ (by omega)).trans g3
  obtain ⟨qx2, qc2, rfl, _⟩ := (show Sl enc5 h2 q2 Q from ho2.sl)
  simp(disch:=first|omega|(simp only[Wx];done)|(simp only[Wy];done)|(simp only[Wv];omega)|with_unfolding_all rfl)only[Wz,ptrTo,sliceTo, hdV]
  obtain ⟨hB, e_hB⟩ : ∃ hB : Heap, hB = ⟨h2.nx + 1, (h2.bl.upd (h2.nx) (viewO t r (.slice qx2 Q.length qc2) w)), h2.lo⟩ := ⟨_, rfl⟩
  have le_hB : Le h2 hB := by subst e_hB; exact ((Le.refl h2).new _)
  have g7 : hB.bl.get (h2.nx) = some (viewO t r (.slice qx2 Q.length qc2) w) := by subst e_hB; exact T.get_upd_same _ _ _
  have n_hB : hB.nx = h2.nx + 1 := by subst e_hB; rfl
  have l_hB : hB.lo = h2.lo := by subst e_hB; rfl
  rw [← e_hB]
  clear e_hB
  have n_le_hB := le_hB.nx
  have l_le_hB := le_hB.lo
  have g3 := (le_hB.get _ (by omega)).trans g3
  have hoB := ho2.le le_hB
  refine placeQ_w t r _ w id Q hB _ hoB.sl (by omega) (by omega) ?_
  intro h3 hle3
  have n_hle3 := hle3.nx
  have l_hle3 := hle3.lo
  have g3 := (hle3.get _ (by omega)).trans g3
  have g7 := (hle3.get _ (by omega)).trans g7
  have ho3 := hoB.le hle3
  have hall3 : Le h h3 := ((le_hA.trans hle2).trans le_hB).trans hle3
  rcases place_cases Q id with ⟨_, e⟩ | ⟨j, p', e, hj, hjd, _⟩
  · exact absurd hid (findQ_none e p (List.mem_of_getElem? hi))
  have hij : j = i := ids_at hp hj hi (by rw [hjd, hid])
  subst hij
  rw [hi] at hj; cases hj
  rw [e]
  obtain ⟨b, o, hb, hat, hld⟩ := ld5 ho3.sl j hi
  simp(disch:=first|omega|(simp only[Wx];done)|(simp only[Wy];done)|(simp only[Wv];omega)|with_unfolding_all rfl)only[Wz,ptrTo,sliceTo, optI, lt_f (show (0 : Int) ≤ (j : Int) by omega), rs_76_2, g7, hat, hld]
  refine waits_w p ?_
  by_cases hs : 0 < p.s
  case neg =>
    simp(disch:=first|omega|(simp only[Wx];done)|(simp only[Wy];done)|(simp only[Wv];omega)|with_unfolding_all rfl)only[Wz,ptrTo,sliceTo, dec_f hs, g3]
    exact hk1 hs _ (hall3.set (b := h.nx + 1) (by omega) _)
  simp(disch:=first|omega|(simp only[Wx];done)|(simp only[Wy];done)|(simp only[Wv];omega)|with_unfolding_all rfl)only[Wz,ptrTo,sliceTo, dec_t hs, rs_76_1, g7, hat, hld]
  refine holds_w p ?_
  by_cases hm : p.m = 0
  · simp(disch:=first|omega|(simp only[Wx];done)|(simp only[Wy];done)|(simp only[Wv];omega)|with_unfolding_all rfl)only[Wz,ptrTo,sliceTo, dec_f (show ¬ p.m ≠ 0 by omega), g7]
    have hle23 : Le hA h3 := (hle2.trans le_hB).trans hle3
    refine without_w t r _ w id Q hA h3 _ ho3 hle23 hlen (by omega) ?_
    intro q4 h4 hs4 ht4 hle4
    have n_hle4 := hle4.nx
    have l_hle4 := hle4.lo
    have g3 := (hle4.get _ (by omega)).trans g3A
    obtain ⟨qx4, qc4, rfl, _⟩ := (show Sl enc5 h4 q4 _ from hs4)
    simp(disch:=first|omega|(simp only[Wx];done)|(simp only[Wy];done)|(simp only[Wv];omega)|with_unfolding_all rfl)only[Wz,ptrTo,sliceTo, hdV, g3]
    exact hk2 hs hm _ _ (QV.put ⟨hs4, ht4⟩ (fun vs op => by rw [g3]; exact cells_ty (by decide)) _) ((le_hA.trans hle4).set (b := h.nx + 1) (by omega) _)
  · rcases ho3 with ⟨rfl, _⟩ | ⟨bo, e1, k1, k2, k3, k4⟩
    · simp at hi
    cases e1
    have hjl : j < Q.length := (List.getElem?_eq_some_iff.1 hi).1
    have hfl := flat_length (enc := enc5) enc5_len Q
    have hfl2 : ((Q.set j ⟨p.id, p.x, p.m, p.m, p.s⟩).flatMap enc5).length = Q.length * 5 := by rw [flat_length enc5_len, List.length_set]
    have hov := over_field (p' := ⟨p.id, p.x, p.m, p.m, p.s⟩) (ws := [.int .i64 p.m]) (j := 3) enc5_len hi (by show 3 + 1 ≤ 5; omega) rfl
    have hp2 : (Q.set j ⟨p.id, p.x, p.m, p.m, p.s⟩)[j]? = some ⟨p.id, p.x, p.m, p.m, p.s⟩ := by rw [List.getElem?_set, if_pos rfl, if_pos hjl]
    have hov2 := over_field (p' := backR p) (ws := [.int .i64 0]) (j := 4) enc5_len hp2 (by show 4 + 1 ≤ 5; omega) rfl
    rw [List.set_set] at hov2
    have hne1 : bo ≠ h2.nx := by rintro rfl; rw [g7] at k4; exact cells_op k4
    have hne2 : bo ≠ h.nx + 1 := by rintro rfl; rw [g3] at k4; exact cells_op k4
    have r2 := flat_read (j := 2) enc5_len hi (by decide)
    have r2 : (Q.flatMap enc5)[j * 5 + 2]? = some (.int .i64 p.m) := r2
    simp(disch:=first|omega|(simp only[Wx];done)|(simp only[Wy];done)|(simp only[Wv];omega)|with_unfolding_all rfl)only[Wz,ptrTo,sliceTo, dec_t (show p.m ≠ 0 from hm), rs_76_0, g7, g3, indexAddr_eq, k4, hov, hov2, r2]
    refine hk3 hs hm _ _ (QV.blk (by show bo < h3.nx; omega) ((T.get_updne _ _ (fun e => hne2 e.symm)).trans (T.get_upd_same _ _ _)) (by simp)) ((hall3.set (b := bo) (by omega) _).set (b := h.nx + 1) (by omega) _)
theorem findQ_w (t r : Int) (q : Value) (w id : Int) (Q : List R5) (h : Heap) (κ : Value → Heap → Prop) (hq : Sl enc5 h q Q) (hlen : Q.length ≤ 100000) (hlo : h.lo ≤ h.nx)
    (hk : ∀ h', Le h h' → κ (match findQ Q id with | some p => .tuple ⟨[aggR p, .bool true]⟩ | none => .tuple ⟨[aggR ⟨0, 0, 0, 0, 0⟩, .bool false]⟩) h') :
    CallW Tryz.prog 49 [hdV t r q w, .int .i64 id] h κ := by
  obtain ⟨qx, qc, rfl, _⟩ := (show Sl enc5 h q Q from hq)
  refine callW_of mixed ?_
  rw [rs_49]
  simp(disch:=first|omega|(simp only[Wx];done)|(simp only[Wy];done)|(simp only[Wv];omega)|with_unfolding_all rfl)only[Wz,ptrTo,sliceTo, hdV]
  obtain ⟨hA, e_hA⟩ : ∃ hA : Heap, hA = ⟨h.nx + 1 + 1, ((h.bl.upd (h.nx) (headO t r (.slice qx Q.length qc) w)).upd (h.nx + 1) (blkR ⟨0, 0, 0, 0, 0⟩)), h.lo⟩ := ⟨_, rfl⟩
  have le_hA : Le h hA := by subst e_hA; exact (((Le.refl h).new _).new _)
  have g1 : hA.bl.get (h.nx) = some (headO t r (.slice qx Q.length qc) w) := by subst e_hA; exact (T.get_updne _ _ (by omega)).trans (T.get_upd_same _ _ _)
  have g3 : hA.bl.get (h.nx + 1) = some (blkR ⟨0, 0, 0, 0, 0⟩) := by subst e_hA; exact T.get_upd_same _ _ _
  have n_hA : hA.nx = h.nx + 1 + 1 := by subst e_hA; rfl
  have l_hA : hA.lo = h.lo := by subst e_hA; rfl
  rw [← e_hA]
  clear e_hA
  refine placeQ_w t r _ w id Q hA _ (hq.le le_hA) (by omega) (by omega) ?_
  intro h2 hle2
  have n_hle2 := hle2.nx
  have l_hle2 := hle2.lo
  have g1 := (hle2.get _ (by omega)).trans g1
  have g3 := (hle2.get _ (by omega)).trans g3
  rcases place_cases Q id with ⟨e, e2⟩ | ⟨i, p, e, hi, hjd, e2⟩
  · rw [e]
    simp(disch:=first|omega|(simp only[Wx];done)|(simp only[Wy];done)|(simp only[Wv];omega)|with_unfolding_all rfl)only[Wz,ptrTo,sliceTo, optI, lt_t (show (-1 : Int) < 0 by decide), g3]
    rw [e2] at hk
    exact hk _ ((le_hA.trans hle2).set (b := h.nx + 1) (by omega) _)
  · rw [e]
    obtain ⟨b, o, hb, hat, hld⟩ := ld5 (hq.le (le_hA.trans hle2)) i hi
    simp(disch:=first|omega|(simp only[Wx];done)|(simp only[Wy];done)|(simp only[Wv];omega)|with_unfolding_all rfl)only[Wz,ptrTo,sliceTo, optI, lt_f (show (0 : Int) ≤ (i : Int) by omega), g1, g3, hat, hld, enc5]
    rw [e2] at hk
    exact hk _ ((le_hA.trans hle2).set (b := h.nx + 1) (by omega) _)
end Go.Proofs

namespace Go.Proofs
open Go.Vai Go.Clashes
theorem fits_set {Q : List R5} {i : Nat} {p p1 : R5} (hi : Q[i]? = some p) (hid : p.id = p1.id) : fitsQ (Q.set i p1) p1 = fitsQ Q p1 := by
  rw [Bool.eq_iff_iff, fitsQ_iff, fitsQ_iff]
  constructor
  · intro h o ho h1 h2
    obtain ⟨k, hk⟩ := List.getElem?_of_mem ho
    have hki : i ≠ k := by rintro rfl; rw [hi] at hk; cases hk; exact h1 hid
    exact h o (List.mem_of_getElem? (i := k) (by rw [List.getElem?_set, if_neg hki]; exact hk)) h1 h2
  · intro h o ho h1 h2
    rcases mem_set ho with rfl | ho
    · exact absurd rfl h1
    · exact h o ho h1 h2
theorem any_set {Q : List R5} {i : Nat} {p p1 : R5} (hi : Q[i]? = some p) (hu : upR p1 = upR p) : (Q.set i p1).any upR = Q.any upR := by
  rw [Bool.eq_iff_iff, List.any_eq_true, List.any_eq_true]
  have hil := (List.getElem?_eq_some_iff.1 hi).1
  constructor
  · rintro ⟨o, ho, h⟩
    rcases mem_set ho with rfl | ho
    · exact ⟨p, List.mem_of_getElem? hi, by rw [← hu]; exact h⟩
    · exact ⟨o, ho, h⟩
  · rintro ⟨o, ho, h⟩
    obtain ⟨k, hk⟩ := List.getElem?_of_mem ho
    by_cases hki : i = k
    · subst hki
      rw [hi] at hk; cases hk
      exact ⟨p1, List.mem_of_getElem? (i := i) (by rw [List.getElem?_set, if_pos rfl, if_pos hil]), by rw [hu]; exact h⟩
    · exact ⟨o, List.mem_of_getElem? (i := k) (by rw [List.getElem?_set, if_neg hki]; exact hk), h⟩
theorem nil_at {β : Type} {fl : β} (b o : Nat) (h : Heap) (κ : Value → Heap → β) : nilB fl (.pointer (some ⟨b, o, none⟩)) h κ = κ (.pointer (some ⟨b, o, none⟩)) h := id rfl
set_option maxHeartbeats 2000000 in
theorem upgradeQ_w (t r : Int) (q : Value) (w id m : Int) (Q : List R5) (h : Heap) (κ : Value → Heap → Prop) (hq : Sl enc5 h q Q) (hlen : Q.length ≤ 100000) (hlo : h.lo ≤ h.nx) (hw : 0 ≤ w ∧ w ≤ 1000000)
    (hk0 : askedM m = false → ∀ h', Le h h' → κ (.tuple ⟨[hdV 0 0 (.slice none 0 0) 0, .bool false, .int .i64 2]⟩) h')
    (hk1 : askedM m = true → findQ Q id = none → ∀ h', Le h h' → κ (.tuple ⟨[hdV 0 0 (.slice none 0 0) 0, .bool false, .int .i64 5]⟩) h')
    (hk2 : askedM m = true → ∀ p, findQ Q id = some p → 0 < p.s → ∀ h', Le h h' → κ (.tuple ⟨[hdV 0 0 (.slice none 0 0) 0, .bool false, .int .i64 7]⟩) h')
    (hk3 : askedM m = true → ∀ i p, Q[i]? = some p → findQ Q id = some p → ¬ 0 < p.s → ∀ q' h', QV h' q' (Q.set i (upgR Q w p m).1) → Le h h' → κ (.tuple ⟨[hdV t r q' (upgR Q w p m).2.1, .bool (upgR Q w p m).2.2, .int .i64 0]⟩) h') :
    CallW Tryz.prog 71 [hdV t r q w, .int .i64 id, .int .i64 m] h κ := by
  obtain ⟨qx, qc, rfl, _⟩ := (show Sl enc5 h q Q from hq)
  refine callW_of mixed ?_
  rw [rs_71]
  simp(disch:=first|omega|(simp only[Wx];done)|(simp only[Wy];done)|(simp only[Wv];omega)|with_unfolding_all rfl)only[Wz,ptrTo,sliceTo, hdV]
  obtain ⟨hA, e_hA⟩ : ∃ hA : Heap, hA = ⟨h.nx + 1 + 1, ((h.bl.upd (h.nx) (headO t r (.slice qx Q.length qc) w)).upd (h.nx + 1) (head0)), h.lo⟩ := ⟨_, rfl⟩
  have le_hA : Le h hA := by subst e_hA; exact (((Le.refl h).new _).new _)
  have g1 : hA.bl.get (h.nx) = some (headO t r (.slice qx Q.length qc) w) := by subst e_hA; exact (T.get_updne _ _ (by omega)).trans (T.get_upd_same _ _ _)
  have g3 : hA.bl.get (h.nx + 1) = some (head0) := by subst e_hA; exact T.get_upd_same _ _ _
  have n_hA : hA.nx = h.nx + 1 + 1 := by subst e_hA; rfl
  have l_hA : hA.lo = h.lo := by subst e_hA; rfl
  rw [← e_hA]
  clear e_hA
  refine askedQ_w m ?_
  cases ha : askedM m with
  | false =>
    simp(disch:=first|omega|(simp only[Wx];done)|(simp only[Wy];done)|(simp only[Wv];omega)|with_unfolding_all rfl)only[Wz,ptrTo,sliceTo, g3]
    exact hk0 ha _ (le_hA.set (b := h.nx + 1) (by omega) _)
  | true =>
  simp(disch:=first|omega|(simp only[Wx];done)|(simp only[Wy];done)|(simp only[Wv];omega)|with_unfolding_all rfl)only[Wz,ptrTo,sliceTo, rs_71_4, g1]
  refine own_w t r _ w Q hA _ (hq.le le_hA) (by omega) (by omega) ?_
  intro q2 h2 ho2 hle2
  have n_hle2 := hle2.nx
  have l_hle2 := hle2.lo
  have g3 := (hle2.get _ (by omega)).trans g3
  obtain ⟨qx2, qc2, rfl, _⟩ := (show Sl enc5 h2 q2 Q from ho2.sl)
  simp(disch:=first|omega|(simp only[Wx];done)|(simp only[Wy];done)|(simp only[Wv];omega)|with_unfolding_all rfl)only[Wz,ptrTo,sliceTo, hdV]
  obtain ⟨hB, e_hB⟩ : ∃ hB : Heap, hB = ⟨h2.nx + 1, (h2.bl.upd (h2.nx) (viewO t r (.slice qx2 Q.length qc2) w)), h2.lo⟩ := ⟨_, rfl⟩
  have le_hB : Le h2 hB := by subst e_hB; exact ((Le.refl h2).new _)
  have g12 : hB.bl.get (h2.nx) = some (viewO t r (.slice qx2 Q.length qc2) w) := by subst e_hB; exact T.get_upd_same _ _ _
  have n_hB : hB.nx = h2.nx + 1 := by subst e_hB; rfl
  have l_hB : hB.lo = h2.lo := by subst e_hB; rfl
  rw [← e_hB]
  clear e_hB
  have n_le_hB := le_hB.nx
  have l_le_hB := le_hB.lo
  have g3 := (le_hB.get _ (by omega)).trans g3
  have hoB := ho2.le le_hB
  refine placeQ_w t r _ w id Q hB _ hoB.sl (by omega) (by omega) ?_
  intro h3 hle3
  have n_hle3 := hle3.nx
  have l_hle3 := hle3.lo
  have g3 := (hle3.get _ (by omega)).trans g3
  have g12 := (hle3.get _ (by omega)).trans g12
  have ho3 := hoB.le hle3
  have hall3 : Le h h3 := ((le_hA.trans hle2).trans le_hB).trans hle3
  rcases place_cases Q id with ⟨e, e2⟩ | ⟨i, p, e, hi, hjd, e2⟩
  · rw [e]
    simp(disch:=first|omega|(simp only[Wx];done)|(simp only[Wy];done)|(simp only[Wv];omega)|with_unfolding_all rfl)only[Wz,ptrTo,sliceTo, optI, lt_t (show (-1 : Int) < 0 by decide), g3]
    exact hk1 ha e2 _ (hall3.set (b := h.nx + 1) (by omega) _)
  rw [e]
  obtain ⟨b, o, hb, hat, hld⟩ := ld5 ho3.sl i hi
  simp(disch:=first|omega|(simp only[Wx];done)|(simp only[Wy];done)|(simp only[Wv];omega)|with_unfolding_all rfl)only[Wz,ptrTo,sliceTo, optI, lt_f (show (0 : Int) ≤ (i : Int) by omega), rs_71_3, g12, hat, hld]
  refine waits_w p ?_
  by_cases hs : 0 < p.s
  · simp(disch:=first|omega|(simp only[Wx];done)|(simp only[Wy];done)|(simp only[Wv];omega)|with_unfolding_all rfl)only[Wz,ptrTo,sliceTo, dec_t hs, g3]
    exact hk2 ha p e2 hs _ (hall3.set (b := h.nx + 1) (by omega) _)
  rcases ho3 with ⟨rfl, _⟩ | ⟨bo, e1, k1, k2, k3, k4⟩
  · simp at hi
  cases e1
  have hil : i < Q.length := (List.getElem?_eq_some_iff.1 hi).1
  obtain ⟨wt, ewt⟩ : ∃ wt, supM p.m m = wt := ⟨_, rfl⟩
  have hfl := flat_length (enc := enc5) enc5_len Q
  have r2 : (Q.flatMap enc5)[i * 5 + 2]? = some (.int .i64 p.m) := flat_read (j := 2) enc5_len hi (by decide)
  have hov := over_field (p' := ⟨p.id, p.x, p.m, wt, p.s⟩) (ws := [.int .i64 wt]) (j := 3) enc5_len hi (by show 3 + 1 ≤ 5; omega) rfl
  obtain ⟨p1, ep1⟩ : ∃ p1 : R5, p1 = ⟨p.id, p.x, p.m, wt, p.s⟩ := ⟨_, rfl⟩
  rw [← ep1] at hov
  have hp2 : (Q.set i p1)[i]? = some p1 := by rw [List.getElem?_set, if_pos rfl, if_pos hil]
  have hfl2 : ((Q.set i p1).flatMap enc5).length = Q.length * 5 := by rw [flat_length enc5_len, List.length_set]
  have s2 : ((Q.set i p1).flatMap enc5)[i * 5 + 2]? = some (.int .i64 p.m) := by rw [flat_read (j := 2) enc5_len hp2 (by decide), ep1]; rfl
  have s3 : ((Q.set i p1).flatMap enc5)[i * 5 + 3]? = some (.int .i64 wt) := by rw [flat_read (j := 3) enc5_len hp2 (by decide), ep1]; rfl
  have hne1 : bo ≠ h2.nx := by rintro rfl; rw [g12] at k4; exact cells_op k4
  have hne2 : bo ≠ h.nx + 1 := by rintro rfl; rw [g3] at k4; exact cells_op k4
  simp(disch:=first|omega|(simp only[Wx];done)|(simp only[Wy];done)|(simp only[Wv];omega)|with_unfolding_all rfl)only[Wz,ptrTo,sliceTo, dec_f hs, rs_71_2, g12, indexAddr_eq, nil_at, k4, r2]
  refine sup_w _ _ ?_
  rw [ewt]
  simp(disch:=first|omega|(simp only[Wx];done)|(simp only[Wy];done)|(simp only[Wv];omega)|with_unfolding_all rfl)only[Wz,ptrTo,sliceTo, nil_at, k4, hov, s2, s3]
  obtain ⟨hC, eC⟩ : ∃ hC : Heap, hC = ⟨h3.nx, h3.bl.upd bo (cellsO ((Q.set i p1).flatMap enc5) 47 true), h3.lo⟩ := ⟨_, rfl⟩
  have hleC : Le h hC := by subst eC; exact hall3.set (b := bo) (by omega) _
  have nC : hC.nx = h3.nx := by rw [eC]
  have lC : hC.lo = h3.lo := by rw [eC]
  have gC : hC.bl.get bo = some (cellsO ((Q.set i p1).flatMap enc5) 47 true) := by subst eC; exact T.get_upd_same _ _ _
  have g3C : hC.bl.get (h.nx + 1) = some head0 := by subst eC; exact (T.get_updne _ _ hne2).trans g3
  have g12C : hC.bl.get h2.nx = some (viewO t r (.slice (some ⟨bo, 0, none⟩) Q.length openCap) w) := by subst eC; exact (T.get_updne _ _ hne1).trans g12
  rw [← eC]
  have hoC : OwnR hA hC (.slice (some ⟨bo, 0, none⟩) Q.length openCap) (Q.set i p1) := .inr ⟨bo, by rw [List.length_set], k1, by omega, by omega, gC⟩
  have eid : p.id = p1.id := by rw [ep1]
  have eup : upR p1 = upR p := by rw [ep1]; rfl
  have efit := fits_set hi eid
  have eany := any_set hi eup
  have fin1 : ∀ (g : Bool) (hD : Heap), hD.bl.get bo = some (cellsO ((Q.set i p1).flatMap enc5) 47 true) → hD.bl.get (h.nx + 1) = some head0 → hD.bl.get h2.nx = some (viewO t r (.slice (some ⟨bo, 0, none⟩) Q.length openCap) w) → Le h hD → hC.nx ≤ hD.nx →
      upgR Q w p m = (⟨p.id, p.x, wt, wt, p.s⟩, w, true) →
      JoinR (fun N75 => rs_71_0 (.pointer (some ⟨bo, i * 5, none⟩)) N75 (.bool true) hD) fun l76 h_14 =>
        ldA False (h_14.bl.get h2.nx) 0 4 fun l => stO False (h_14.bl.get (h.nx + 1)) 4 (h.nx + 1) 0 l h_14 fun h_15 => ldA False (h_15.bl.get (h.nx + 1)) 0 4 fun l => κ (.tuple ⟨[.agg ⟨l⟩, .bool true, .int .i64 0]⟩) h_15 := by
    intro g hD d1 d2 d3 hl hn he
    have ll := hl.lo
    have hov2 := over_field (p' := ⟨p.id, p.x, wt, wt, p.s⟩) (ws := [.int .i64 wt]) (j := 2) enc5_len hp2 (by show 2 + 1 ≤ 5; omega) (by rw [ep1]; rfl)
    rw [List.set_set] at hov2
    refine ⟨fun l h' => HQ ⟨hD.nx, hD.bl.upd bo (cellsO ((Q.set i ⟨p.id, p.x, wt, wt, p.s⟩).flatMap enc5) 47 true), hD.lo⟩ h', ?_, ?_⟩
    · simp(disch:=first|omega|(simp only[Wx];done)|(simp only[Wy];done)|(simp only[Wv];omega)|with_unfolding_all rfl)only[Wz,ptrTo,sliceTo, rs_71_0, nil_at, d1, s3, hov2]
      rfl
    · intro l h' hq'
      cases (show _ = h' from hq')
      simp(disch:=first|omega|(simp only[Wx];done)|(simp only[Wy];done)|(simp only[Wv];omega)|with_unfolding_all rfl)only[Wz,ptrTo,sliceTo, d3, d2]
      have key := hk3 ha i p hi e2 hs
      rw [he] at key
      exact key _ _ (QV.blk (by show bo < hD.nx; omega) ((T.get_updne _ _ (fun e => hne2 e.symm)).trans (T.get_upd_same _ _ _)) (by simp)) ((hl.set (b := bo) (by omega) _).set (b := h.nx + 1) (by omega) _)
  have fin2 : ∀ (hD : Heap), hD.bl.get bo = some (cellsO ((Q.set i p1).flatMap enc5) 47 true) → hD.bl.get (h.nx + 1) = some head0 → hD.bl.get h2.nx = some (viewO t r (.slice (some ⟨bo, 0, none⟩) Q.length openCap) w) → Le h hD → hC.nx ≤ hD.nx →
      upgR Q w p m = (⟨p.id, p.x, p.m, wt, w + 1⟩, w + 1, false) →
      JoinR (fun N75 => rs_71_1 h2.nx (.pointer (some ⟨bo, i * 5, none⟩)) N75 (.bool false) hD) fun l76 h_14 =>
        ldA False (h_14.bl.get h2.nx) 0 4 fun l => stO False (h_14.bl.get (h.nx + 1)) 4 (h.nx + 1) 0 l h_14 fun h_15 => ldA False (h_15.bl.get (h.nx + 1)) 0 4 fun l => κ (.tuple ⟨[.agg ⟨l⟩, .bool false, .int .i64 0]⟩) h_15 := by
    intro hD d1 d2 d3 hl hn he
    have ll := hl.lo
    have hov2 := over_field (p' := ⟨p.id, p.x, p.m, wt, w + 1⟩) (ws := [.int .i64 (w + 1)]) (j := 4) enc5_len hp2 (by show 4 + 1 ≤ 5; omega) (by rw [ep1]; rfl)
    rw [List.set_set] at hov2
    refine ⟨fun l h' => HQ ⟨hD.nx, (hD.bl.upd h2.nx (viewO t r (.slice (some ⟨bo, 0, none⟩) Q.length openCap) (w + 1))).upd bo (cellsO ((Q.set i ⟨p.id, p.x, p.m, wt, w + 1⟩).flatMap enc5) 47 true), hD.lo⟩ h', ?_, ?_⟩
    · simp(disch:=first|omega|(simp only[Wx];done)|(simp only[Wy];done)|(simp only[Wv];omega)|with_unfolding_all rfl)only[Wz,ptrTo,sliceTo, rs_71_1, nil_at, d1, d3, hov2]
      rfl
    · intro l h' hq'
      cases (show _ = h' from hq')
      simp(disch:=first|omega|(simp only[Wx];done)|(simp only[Wy];done)|(simp only[Wv];omega)|with_unfolding_all rfl)only[Wz,ptrTo,sliceTo, d3, d2]
      have key := hk3 ha i p hi e2 hs
      rw [he] at key
      exact key _ _ (QV.blk (by show bo < hD.nx; omega) ((T.get_updne _ _ (fun e => hne2 e.symm)).trans (T.get_upd_same _ _ _)) (by simp)) (((hl.set (b := h2.nx) (by omega) _).set (b := bo) (by omega) _).set (b := h.nx + 1) (by omega) _)
  by_cases hq1 : wt = p.m
  · simp(disch:=first|omega|(simp only[Wx];done)|(simp only[Wy];done)|(simp only[Wv];omega)|with_unfolding_all rfl)only[Wz,ptrTo,sliceTo, dec_t hq1]
    exact fin1 true hC gC g3C g12C hleC (Nat.le_refl _) (by unfold upgR; rw [ewt, if_pos (by simp [hq1])])
  · have fa : (((Q.set i p1).flatMap enc5).drop (i * 5)).take 5 = enc5 p1 := by
      have := flat_at (enc := enc5) enc5_len (Q.set i p1) i (by simpa using hil)
      rw [this, (List.getElem?_eq_some_iff.1 hp2).2]
    simp(disch:=first|omega|(simp only[Wx];done)|(simp only[Wy];done)|(simp only[Wv];omega)|with_unfolding_all rfl)only[Wz,ptrTo,sliceTo, dec_f hq1, g12, g12C, gC, fa]
    refine fitsQ_w t r _ w p1 (Q.set i p1) hC _ hoC.sl (by simp; omega) (by omega) ?_
    intro h5 hle5
    have n5 := hle5.nx
    have l5 := hle5.lo
    have d1 := (hle5.get bo (by omega)).trans gC
    have d2 := (hle5.get (h.nx + 1) (by omega)).trans g3C
    have d3 := (hle5.get h2.nx (by omega)).trans g12C
    have hl5 := hleC.trans hle5
    rw [efit]
    have eup1 : fitsQ Q p1 = fitsQ Q ⟨p.id, p.x, p.m, supM p.m m, p.s⟩ := by rw [ep1, ewt]
    cases hft : fitsQ Q p1 with
    | false =>
      simp(disch:=first|omega|(simp only[Wx];done)|(simp only[Wy];done)|(simp only[Wv];omega)|with_unfolding_all rfl)only[Wz,ptrTo,sliceTo]
      refine fin2 h5 d1 d2 d3 hl5 n5 ?_
      unfold upgR
      rw [ewt, if_neg]
      rw [← ewt, ← eup1, hft, ewt]
      simp [hq1]
    | true =>
      simp(disch:=first|omega|(simp only[Wx];done)|(simp only[Wy];done)|(simp only[Wv];omega)|with_unfolding_all rfl)only[Wz,ptrTo,sliceTo, d3]
      refine containsR_w (Q.set i p1) upR h5 _ _ _ (hoC.sl.le hle5) (by simp; omega) ?_ ?_
      · intro o ho h6 κ6 hl6 hk6
        simp(disch:=first|omega|(simp only[Wx];done)|(simp only[Wy];done)|(simp only[Wv];omega)|with_unfolding_all rfl)only[Wz,ptrTo,sliceTo, List.nil_append, List.append_nil]
        exact upgrades_w o (hk6 h6 (Le.refl _))
      · intro h6 hle6
        have n6 := hle6.nx
        have l6 := hle6.lo
        have d1 := (hle6.get bo (by omega)).trans d1
        have d2 := (hle6.get (h.nx + 1) (by omega)).trans d2
        have d3 := (hle6.get h2.nx (by omega)).trans d3
        have hl6 := hl5.trans hle6
        rw [eany]
        cases han : Q.any upR with
        | true =>
          simp(disch:=first|omega|(simp only[Wx];done)|(simp only[Wy];done)|(simp only[Wv];omega)|with_unfolding_all rfl)only[Wz,ptrTo,sliceTo]
          refine fin2 h6 d1 d2 d3 hl6 (by omega) ?_
          unfold upgR
          rw [ewt, if_neg]
          rw [han]
          simp [hq1]
        | false =>
          simp(disch:=first|omega|(simp only[Wx];done)|(simp only[Wy];done)|(simp only[Wv];omega)|with_unfolding_all rfl)only[Wz,ptrTo,sliceTo]
          refine fin1 true h6 d1 d2 d3 hl6 (by omega) ?_
          unfold upgR
          rw [ewt, if_pos]
          rw [← ewt, ← eup1, hft, han]
          simp
end Go.Proofs
