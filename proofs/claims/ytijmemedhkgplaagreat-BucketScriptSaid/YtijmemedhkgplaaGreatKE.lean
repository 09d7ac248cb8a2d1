/-
  PROVED HERE: a part of the proof, by a calculus of weakest conditions over an abstract heap (K30, K31, K32, K33, K34, K35, K36).
-/
import Derived.Test.YtijmemedhkgplaaGreatKD
import Derived.Test.YtijmemedhkgplaaGreatV5
import Derived.Test.YtijmemedhkgplaaGreatSRT
import Derived.Test.YtijmemedhkgplaaGreatV6
set_option linter.unusedVariables false
set_option linter.unusedSimpArgs false
set_option maxRecDepth 100000
namespace Go.Proofs
open Go.Vai Go.Clashes
def cmpI (a b : Int) : Int := if a < b then -1 else if b < a then 1 else 0
def nmCmp (t r t' r' : Int) : Int := if cmpI t t' = 0 then cmpI r r' else cmpI t t'
theorem isNaN_w (a : Int) {h : Heap} {κ : Value → Heap → Prop} (hk : κ (.bool false) h) : CallW Tryz.prog 127 [.int .i64 a] h κ := by
  refine pureW (v := .bool false) rfl rfl (callW_of mixed ?_) hk
  rw [rs_127]; simp(disch:=first|omega|(simp only[Wx];done)|(simp only[Wy];done)|(simp only[Wv];omega)|with_unfolding_all rfl)only[Wz,ptrTo,sliceTo]
theorem compareI_w (a b : Int) {h : Heap} {κ : Value → Heap → Prop} (hk : κ (.int .i64 (cmpI a b)) h) : CallW Tryz.prog 114 [.int .i64 a, .int .i64 b] h κ := by
  refine pureW (v := .int .i64 (cmpI a b)) rfl rfl (callW_of mixed ?_) hk
  rw [rs_114]
  refine isNaN_w _ (isNaN_w _ ?_)
  rcases Int.lt_trichotomy a b with h1 | h1 | h1
  · simp(disch:=first|omega|(simp only[Wx];done)|(simp only[Wy];done)|(simp only[Wv];omega)|with_unfolding_all rfl)only[Wz,ptrTo,sliceTo, rs_114_0]; simp [cmpI, h1]
  · simp(disch:=first|omega|(simp only[Wx];done)|(simp only[Wy];done)|(simp only[Wv];omega)|with_unfolding_all rfl)only[Wz,ptrTo,sliceTo, rs_114_0]; simp [cmpI, h1]
  · simp(disch:=first|omega|(simp only[Wx];done)|(simp only[Wy];done)|(simp only[Wv];omega)|with_unfolding_all rfl)only[Wz,ptrTo,sliceTo, rs_114_0]; simp [cmpI, h1]; omega
theorem or_w (a b : Int) (h : Heap) (v : Value) (hv : Sl (fun n => [Value.int .i64 n]) h v [a, b]) (κ : Value → Heap → Prop) (hk : κ (.int .i64 (if a = 0 then b else a)) h) : CallW Tryz.prog 113 [v] h κ := by
  refine callW_of mixed ?_
  rw [rs_113]
  simp only [hv.len]
  have he : ∀ n : Int, ((fun n => [Value.int .i64 n]) n).length = 1 := fun _ => rfl
  have f0 := hv.ld he 0 (p := a) rfl
  have f1 := hv.ld he 1 (p := b) rfl
  obtain ⟨b0, o0, hb0, hat0, _, hh0⟩ := f0
  obtain ⟨b1, o1, hb1, hat1, _, hh1⟩ := f1
  have hx0 := fun (β : Type) (fl : β) κ => ldO_has (fl := fl) hh0 0 κ (Nat.lt_succ_self _)
  have hx1 := fun (β : Type) (fl : β) κ => ldO_has (fl := fl) hh1 0 κ (Nat.lt_succ_self _)
  simp only [Nat.add_zero] at hx0 hx1
  refine ⟨fun n l h1 => h1 = h ∧ ∃ k : Nat, slot l 10 = .int .i64 (k : Int) ∧ k ≤ 2 ∧ n = 2 - k ∧ (0 < k → a = 0) ∧ (1 < k → b = 0), ⟨2, rfl, 0, rfl, by omega, by omega, by omega, by omega⟩, ?_⟩
  rintro n l h1 ⟨rfl, k, hs, hk2, rfl, ha, hb⟩
  have : k = 0 ∨ k = 1 ∨ k = 2 := by omega
  rcases this with rfl | rfl | rfl
  · by_cases h1 : a = 0
    · simp(disch:=first|omega|(simp only[Wx];done)|(simp only[Wy];done)|(simp only[Wv];omega)|with_unfolding_all rfl)only[Wz,ptrTo,sliceTo, hv.len, hs, rs_113_0, hat0, hx0, h1, List.length_cons, List.length_nil]
      exact ⟨1, by omega, trivial, 1, rfl, by omega, by omega, fun _ => trivial, fun h => by omega⟩
    · simp(disch:=first|omega|(simp only[Wx];done)|(simp only[Wy];done)|(simp only[Wv];omega)|with_unfolding_all rfl)only[Wz,ptrTo,sliceTo, hv.len, hs, rs_113_0, hat0, hx0, dec_f h1, List.length_cons, List.length_nil]
      simpa [h1] using hk
  · have ha := ha (by omega)
    by_cases h1 : b = 0
    · simp(disch:=first|omega|(simp only[Wx];done)|(simp only[Wy];done)|(simp only[Wv];omega)|with_unfolding_all rfl)only[Wz,ptrTo,sliceTo, hv.len, hs, rs_113_0, hat1, hx1, h1, List.length_cons, List.length_nil]
      exact ⟨0, by omega, trivial, 2, rfl, by omega, by omega, fun _ => ha, fun h => trivial⟩
    · simp(disch:=first|omega|(simp only[Wx];done)|(simp only[Wy];done)|(simp only[Wv];omega)|with_unfolding_all rfl)only[Wz,ptrTo,sliceTo, hv.len, hs, rs_113_0, hat1, hx1, dec_f h1, List.length_cons, List.length_nil]
      simpa [ha] using hk
  · simp(disch:=first|omega|(simp only[Wx];done)|(simp only[Wy];done)|(simp only[Wv];omega)|with_unfolding_all rfl)only[Wz,ptrTo,sliceTo, hv.len, hs, List.length_cons, List.length_nil]
    have ha := ha (by omega)
    have hb := hb (by omega)
    simpa [ha, hb] using hk
theorem nmCompare_w (t r t' r' : Int) {h : Heap} {κ : Value → Heap → Prop} (hk : κ (.int .i64 (nmCmp t r t' r')) h) : CallW Tryz.prog 85 [nmV t r, nmV t' r'] h κ := by
  refine pureW (v := .int .i64 (nmCmp t r t' r')) rfl rfl (callW_of mixed ?_) hk
  rw [rs_85]
  simp(disch:=first|omega|(simp only[Wx];done)|(simp only[Wy];done)|(simp only[Wv];omega)|with_unfolding_all rfl)only[Wz,ptrTo,sliceTo, nmV]
  refine compareI_w _ _ ?_
  simp(disch:=first|omega|(simp only[Wx];done)|(simp only[Wy];done)|(simp only[Wv];omega)|with_unfolding_all rfl)only[Wz,ptrTo,sliceTo]
  refine compareI_w _ _ ?_
  simp(disch:=first|omega|(simp only[Wx];done)|(simp only[Wy];done)|(simp only[Wv];omega)|with_unfolding_all rfl)only[Wz,ptrTo,sliceTo]
  refine or_w _ _ _ _ (Sl.new (L := [cmpI t t', cmpI r r']) (e := 3) (op := false) (Nat.lt_succ_self _) (T.get_upd_same _ _ _) _) _ ?_
  rfl
end Go.Proofs

namespace Go.Proofs
open Go.Vai Go.Clashes
def ltN (p q : Int × Int) : Prop := p.1 < q.1 ∨ (p.1 = q.1 ∧ p.2 < q.2)
theorem ltN_trans {a b c : Int × Int} (h1 : ltN a b) (h2 : ltN b c) : ltN a c := by unfold ltN at *; omega
theorem nmCmp_lt (p q : Int × Int) : nmCmp p.1 p.2 q.1 q.2 < 0 ↔ ltN p q := by
  unfold nmCmp cmpI ltN
  split <;> split <;> (try split) <;> (try split) <;> omega
theorem ltN_tri {p q : Int × Int} (h : p ≠ q) (hn : ¬ ltN p q) : ltN q p := by
  unfold ltN at *
  have : ¬ (p.1 = q.1 ∧ p.2 = q.2) := fun ⟨a, b⟩ => h (Prod.ext a b)
  omega
end Go.Proofs

namespace Go.Proofs
open Go.Vai Go.Clashes
def bitL : Nat → Int | 0 => 0 | 1 => 1 | 2 => 2 | 3 => 2 | 4 => 3 | 5 => 3 | 6 => 3 | 7 => 3 | _ => 4
theorem bits_a : ∀ n, n < 13 → answersS Tryz.prog 40 126 [.int .u64 (n : Nat)] (.int .i64 (bitL n)) = true := by
  intro n hn
  have : (List.range 13).all (fun n => answersS Tryz.prog 40 126 [.int .u64 ((n : Nat) : Int)] (.int .i64 (bitL n))) = true := by kernel_rfl
  exact List.all_eq_true.1 this n (List.mem_range.2 hn)
theorem pdq_w (v fv : Value) (n : Nat) (hn : n ≤ 12) (lim : Int) (h : Heap) (κ : Value → Heap → Prop) (hk : CallW Tryz.prog 131 [v, .int .i64 0, .int .i64 (n : Int), fv] h fun _ h' => κ (.tuple ⟨[]⟩) h') :
    CallW Tryz.prog 125 [v, .int .i64 0, .int .i64 (n : Int), .int .i64 lim, fv] h κ := by
  refine callW_of mixed ?_
  rw [rs_125]
  refine ⟨fun m l h1 => slot l 127 = .int .i64 0 ∧ slot l 140 = .int .i64 (n : Int) ∧ HQ h h1, ⟨0, rfl, rfl, rfl⟩, ?_⟩
  rintro m l h1 ⟨s1, s2, hq⟩
  cases (show h = h1 from hq)
  simp(disch:=first|omega|(simp only[Wx];done)|(simp only[Wy];done)|(simp only[Wv];omega)|with_unfolding_all rfl)only[Wz,ptrTo,sliceTo, rs_125_6, s1, s2]
  exact hk
theorem isort0_w (v fv : Value) (h : Heap) (κ : Value → Heap → Prop) (hk : κ (.tuple ⟨[]⟩) h) : CallW Tryz.prog 131 [v, .int .i64 0, .int .i64 0, fv] h κ := by
  refine callW_of mixed ?_
  rw [rs_131]
  simp(disch:=first|omega|(simp only[Wx];done)|(simp only[Wy];done)|(simp only[Wv];omega)|with_unfolding_all rfl)only[Wz,ptrTo,sliceTo]
  refine ⟨fun n l h1 => slot l 42 = .int .i64 1 ∧ HQ h h1, ⟨0, rfl, rfl⟩, ?_⟩
  rintro n l h1 ⟨s1, hq⟩
  cases (show h = h1 from hq)
  simp(disch:=first|omega|(simp only[Wx];done)|(simp only[Wy];done)|(simp only[Wv];omega)|with_unfolding_all rfl)only[Wz,ptrTo,sliceTo, s1]
  exact hk
section
variable {β : Type} {fl : β}
theorem conv_u64 (n : Int) (h : Heap) (κ : Value → Heap → β) (hn : 0 ≤ n ∧ n ≤ 18446744073709551615) : convI fl .u64 (.int .i64 n) h κ = κ (.int .u64 n) h := by
  unfold convI; simp only [fiK_eq, wrapB_eq]; rw [IntWalk.u64_in _ hn]
end
theorem cells_mp (b : Nat) : (Value.cells (.map (some b))).toList = [.map (some b)] := id rfl
def cfN (x y : Int × Int) : Int := nmCmp x.1 x.2 y.1 y.2
theorem cfN_lt (x y : Int × Int) : ltOf cfN x y = true ↔ ltN x y := by
  show decide (nmCmp x.1 x.2 y.1 y.2 < 0) = true ↔ _
  rw [decide_eq_true_eq, nmCmp_lt]
theorem cfN_f {x y : Int × Int} : ltOf cfN x y = false ↔ ¬ ltN x y := by
  rw [← cfN_lt, Bool.not_eq_true]
theorem swoN : Sort.SWO (ltOf cfN) where
  irrefl x := cfN_f.2 (by unfold ltN; omega)
  trans x y z h1 h2 := (cfN_lt _ _).2 (ltN_trans ((cfN_lt _ _).1 h1) ((cfN_lt _ _).1 h2))
  ntrans x y z h1 h2 := by
    rw [cfN_f] at *
    unfold ltN at *
    omega
theorem cmpLaysN (blk size : Nat) (w : World) : Go.Proofs.CmpLays Tryz.prog 85 #[] encN 2 cfN blk 0 size w := by
  intro m os dk _ x y
  exact grown_call (args := [nmV x.1 x.2, nmV y.1 y.2]) (args' := [nmV x.1 x.2, nmV y.1 y.2]) (nmCompare_w x.1 x.2 y.1 y.2 rfl)
    (.cons (VR.agg' (.cons (.int _ _) (.cons (.int _ _) .nil))) (.cons (VR.agg' (.cons (.int _ _) (.cons (.int _ _) .nil))) .nil)) rfl _
theorem sortNm_law (blk cap : Nat) (d : Array (Int × Int)) (w : World) (hH : Sort.HoldsK encN 2 w blk 0 d) (hblk : blk < w.heap.size) (hsz : d.size < 4611686018427387904) :
    Calls Tryz.prog 111 #[.slice (some ⟨blk, 0, none⟩) d.size cap, .func (.func 85) #[] #[]] w fun e w' => e = .returned (.tuple #[]) ∧ ∃ d' n os, Sort.PermIn 0 d.size d d' ∧ Sort.SortedIn (fun x y => ltOf cfN x y) 0 d.size d' ∧ w' = Go.Proofs.sortWorldK encN 2 w blk 0 n d' os := by
  have eg : ∀ args w, (callFunc 85 args).run Tryz.prog w = .ok (.enter 85 args) w := enters_of Tryz.func85 (by kernel_rfl) rfl
  exact Go.Proofs.AnyQ.slices_SortFunc Tryz.sortNm 2 Tryz.isAgg38 Tryz.sizeOf38 encN (fun _ => rfl) (fun x v hv => by simp [encN] at hv; rcases hv with rfl | rfl <;> rfl) cfN swoN 85 #[] blk 0 cap d w eg (cmpLaysN blk d.size w) hH hblk hsz
theorem entersSort : ∀ args w, (callFunc 111 args).run Tryz.prog w = .ok (.enter 111 args) w := enters_of Tryz.func111 (by kernel_rfl) rfl
theorem decN (φ : Emb) (x : Int × Int) (cs : List Value) (h : F2 (VR φ) (encN x) cs) : ∃ y : Int × Int, cs = encN y ∧ x = y := by
  unfold encN at h
  cases h with | cons h1 h =>
  cases h with | cons h2 h =>
  cases h
  cases h1; cases h2
  exact ⟨x, rfl, rfl⟩
theorem sortN_w (a h : Heap) (L : List (Int × Int)) (v : Value) (κ : Value → Heap → Prop) (ho : OwnN a h v L) (hle : Le a h) (hlo : h.lo ≤ h.nx) (hl : L.length ≤ 1000000) (hd : L.Nodup)
    (hk : ∀ (D : List (Int × Int)) h', D.Perm L → D.Pairwise ltN → OwnN a h' v D → Le a h' → κ (.tuple ⟨[]⟩) h') : CallW Tryz.prog 111 [v, .func (.func 85) #[] #[]] h κ := by
  rcases ho with ⟨rfl, hv⟩ | ⟨b, hv, h1, h2, h3, h4⟩
  · obtain ⟨x, c, rfl, _⟩ := (show Sl encN h v [] from (show OwnN a h v [] from .inl ⟨rfl, hv⟩).sl)
    refine callW_of mixed ?_
    rw [rs_111]
    simp(disch:=first|omega|(simp only[Wx];done)|(simp only[Wy];done)|(simp only[Wv];omega)|with_unfolding_all rfl)only[Wz,ptrTo,sliceTo, conv_u64]
    refine closedW mixed (bits_a 0 (by omega)) ?_
    refine pdq_w _ _ 0 (by omega) _ h _ ?_
    refine isort0_w _ _ h _ ?_
    exact hk [] h (List.Perm.refl _) List.Pairwise.nil (.inl ⟨rfl, hv⟩) hle
  · cases hv
    refine sort_in (by decide) (enc := encN) (encA := encN) encN_len encN_len (kA := id) (kC := id) (lt := fun x y => ltOf cfN x y) decN entersSort sortNm_law h4 h3 hl ?_
    intro D hp hs
    have hs2 : D.Pairwise ltN := by
      have hnd : D.Nodup := (hp.nodup_iff).2 hd
      refine (hnd.and hs).imp ?_
      rintro x y ⟨hne, hlt⟩
      exact ltN_tri (fun e => hne e.symm) (cfN_f.1 hlt)
    refine hk D _ hp hs2 (.inr ⟨b, by rw [hp.length_eq], h1, h2, h3, T.get_upd_same _ _ _⟩) ⟨hle.nx, hle.lo, fun c hc => ?_⟩
    exact (T.get_updne _ _ (by omega)).trans (hle.get c hc)
theorem names_w {h : Heap} {bb bm bp bl most : Nat} {M : List HE} {clock : Nat} {F : List Int} {B : List Bool} (s : BucketIs h bb bm bp bl most M clock F B) (hlo : h.lo ≤ h.nx) (hM : M.length ≤ 1000) (κ : Value → Heap → Prop)
    (hk : ∀ v h' (D : List (Int × Int)), D.Perm (M.map nmOf) → D.Pairwise ltN → OwnN h h' v D → Le h h' → κ v h') :
    CallW Tryz.prog 44 [.pointer (some ⟨bb, 0, none⟩)] h κ := by
  refine callW_of mixed ?_
  rw [rs_44]
  have gb := s.cellb
  simp(disch:=first|omega|(simp only[Wx];done)|(simp only[Wy];done)|(simp only[Wv];omega)|with_unfolding_all rfl)only[Wz,ptrTo,sliceTo, nil_at, gb]
  refine callW_of mixed ?_
  rw [rs_84]
  simp(disch:=first|omega|(simp only[Wx];done)|(simp only[Wy];done)|(simp only[Wv];omega)|with_unfolding_all rfl)only[Wz,ptrTo,sliceTo, cells_mp]
  obtain ⟨hA, e_hA⟩ : ∃ hA : Heap, hA = ⟨h.nx + 1, (h.bl.upd (h.nx) (cellsO [.map (some bm)] 86 false)), h.lo⟩ := ⟨_, rfl⟩
  have le_hA : Le h hA := by subst e_hA; exact ((Le.refl h).new _)
  have gc : hA.bl.get (h.nx) = some (cellsO [.map (some bm)] 86 false) := by subst e_hA; exact T.get_upd_same _ _ _
  have n_hA : hA.nx = h.nx + 1 := by subst e_hA; rfl
  have l_hA : hA.lo = h.lo := by subst e_hA; rfl
  rw [← e_hA]
  clear e_hA
  have sA := s.le le_hA
  refine callW_of mixed ?_
  rw [rs_83]
  refine callW_of mixed ?_
  rw [rs_110]
  have hlm := s.ltm
  refine appendSeq_w M clock bm h.nx hA s.ok sA.cellm (by omega) gc (by omega) (by omega) (by omega) _ ?_
  intro v h2 L hp ho le2
  have n2 := le2.nx
  have l2 := le2.lo
  have hnd : (L.map nmOf).Nodup := by
    refine ((hp.map nmOf).nodup_iff).2 ?_
    rw [List.Nodup, List.pairwise_map]
    exact s.ok.nm.imp fun hn e => hn ⟨congrArg Prod.fst e, congrArg Prod.snd e⟩
  have hll := hp.length_eq
  refine sortN_w hA h2 (L.map nmOf) v _ ho le2 (by omega) (by rw [List.length_map]; omega) hnd ?_
  intro D h3 hpD hs ho3 le3
  exact hk v h3 D (hpD.trans (hp.map nmOf)) hs (Own.base ho3 (by omega)) (le_hA.trans le3)
end Go.Proofs

namespace Go.Proofs
open Go.Vai Go.Clashes
theorem look_hit1 {β : Type} {fl : β} {M : List HE} {clock : Nat} {h : Heap} {bm : Nat} (o : MapOk M clock) (g : h.bl.get bm = some (.map (M.map toH) clock)) {e : HE} (he : e ∈ M) (κ : Value → Heap → β) :
    lookupB fl Tryz.prog 38 (.pointer none) false (.map (some bm)) (nmV e.t e.r) h κ = κ (.pointer (some ⟨e.hb, 0, none⟩)) h := by
  unfold lookupB lookupE
  rw [keyN]
  simp only [g]
  rcases findH h e.t e.r M 0 with ⟨g1, g2⟩ | ⟨j, e', g1, g2, g3, g4⟩
  · exact absurd ⟨rfl, rfl⟩ (g2 e he)
  · rw [g1]
    rw [o.uniq he (List.mem_of_getElem? g2) g3 g4]; rfl
def slV (v : Value) : Value := match v with | .slice a n c => .slice a n c | _ => .slice none 0 0
def encH (e : HE) : List Value := [.int .i64 e.t, .int .i64 e.r, slV e.q, .int .i64 e.w]
theorem encH_len (e : HE) : (encH e).length = 4 := rfl
theorem encH_one (e : HE) : (encH e).all oneC = true := by
  unfold encH slV
  split <;> rfl
theorem slV_sl {h : Heap} {q : Value} {Q : List R5} (hq : Sl enc5 h q Q) : slV q = q := by
  obtain ⟨x, c, rfl, _⟩ := hq
  rfl
abbrev OwnH (a h : Heap) (v : Value) (K : List HE) : Prop := Own encH a 56 h v K
def SameH (a b : HE) : Prop := a.t = b.t ∧ a.r = b.r ∧ a.w = b.w ∧ a.Q = b.Q
theorem headsBk_w {h : Heap} {bb bm bp bl most : Nat} {M : List HE} {clock : Nat} {F : List Int} {B : List Bool} (s : BucketIs h bb bm bp bl most M clock F B) (hlo : h.lo ≤ h.nx) (hM : M.length ≤ 1000) (κ : Value → Heap → Prop)
    (hk : ∀ v h' (K : List HE), K.length = M.length → (K.map nmOf).Perm (M.map nmOf) → (K.map nmOf).Pairwise ltN → (∀ k ∈ K, (∃ e ∈ M, SameH k e) ∧ QV h' k.q k.Q) → OwnH h h' v K → Le h h' → κ v h') :
    CallW Tryz.prog 13 [.pointer (some ⟨bb, 0, none⟩)] h κ := by
  refine callW_of mixed ?_
  rw [rs_13]
  simp(disch:=first|omega|(simp only[Wx];done)|(simp only[Wy];done)|(simp only[Wv];omega)|with_unfolding_all rfl)only[Wz,ptrTo,sliceTo, bin_eqBk, rs_13_1]
  refine names_w s hlo hM _ ?_
  intro v1 h1 D hp hs ho1 le1
  have hlD : D.length = M.length := by rw [hp.length_eq, List.length_map]
  obtain ⟨x1, c1, rfl, _⟩ := (show Sl encN h1 v1 D from ho1.sl)
  have n1 := le1.nx
  have l1 := le1.lo
  simp(disch:=first|omega|(simp only[Wx];done)|(simp only[Wy];done)|(simp only[Wv];omega)|with_unfolding_all rfl)only[Wz,ptrTo,sliceTo]
  refine ⟨fun m l h2 => ∃ (i : Nat) (K : List HE), slot l 23 = .int .i64 (i : Int) ∧ m = D.length - i ∧ i ≤ D.length ∧ K.map nmOf = D.take i ∧ (∀ k ∈ K, (∃ e ∈ M, SameH k e) ∧ QV h2 k.q k.Q) ∧ OwnH h1 h2 (slot l 21) K ∧ Le h1 h2,
    ⟨_, 0, [], rfl, rfl, by omega, by simp, fun k hk => (nomatch hk), .inl ⟨rfl, .inl rfl⟩, Le.refl _⟩, ?_⟩
  rintro m l h2 ⟨i, K, s1, rfl, hi, hK, hQ, hoK, le2⟩
  have n2 := le2.nx
  have l2 := le2.lo
  have hKl : K.length = i := by have := congrArg List.length hK; simp at this; omega
  by_cases hst : i < D.length
  · obtain ⟨p, hpi⟩ : ∃ p, D[i]? = some p := ⟨_, List.getElem?_eq_getElem hst⟩
    have hpD : p ∈ M.map nmOf := hp.mem_iff.1 (List.mem_of_getElem? hpi)
    obtain ⟨e, he, rfl⟩ := List.mem_map.1 hpD
    have s2 := s.le (le1.trans le2)
    have gb := s2.cellb
    have gm := s2.cellm
    have hltb := s2.ltb
    have H := s2.heads e he
    have hlt := H.lt
    have hgd := s2.good e he
    obtain ⟨qx, qc, eq, _⟩ := (show Sl enc5 h2 e.q e.Q from H.qv.1)
    have gh := H.get
    rw [eq] at gh
    obtain ⟨b1, o1, hb1, hat1, _, hh1⟩ := (ho1.sl.le le2).ld encN_len i hpi
    have r1 := fun (β : Type) (fl : β) κ => ldA_has (fl := fl) hh1 2 κ rfl
    have hltm := s2.ltm
    have gmB := (((Le.refl h2).new (cellsO [.int .i64 e.t, .int .i64 e.r] 38 false)).get _ hltm).trans gm
    have eL := look_hit1 (β := Option Value) (fl := none) s2.ok gmB he
    unfold nmV at eL
    simp(disch:=first|omega|(simp only[Wx];done)|(simp only[Wy];done)|(simp only[Wv];omega)|with_unfolding_all rfl)only[Wz,ptrTo,sliceTo, s1, lt_t (show (i : Int) < (D.length : Int) by omega), rs_13_0, hat1, r1, encN, nmOf, nil_at, gb, gh, eL]
    obtain ⟨hB, e_hB⟩ : ∃ hB : Heap, hB = ⟨h2.nx + 1 + 1, ((h2.bl.upd (h2.nx) (cellsO [.int .i64 e.t, .int .i64 e.r] 38 false)).upd (h2.nx + 1) (headO e.t e.r (.slice qx e.Q.length qc) e.w)), h2.lo⟩ := ⟨_, rfl⟩
    have le_hB : Le h2 hB := by subst e_hB; exact (((Le.refl h2).new _).new _)
    have gn : hB.bl.get (h2.nx) = some (cellsO [.int .i64 e.t, .int .i64 e.r] 38 false) := by subst e_hB; exact (T.get_updne _ _ (by omega)).trans (T.get_upd_same _ _ _)
    have gd : hB.bl.get (h2.nx + 1) = some (headO e.t e.r (.slice qx e.Q.length qc) e.w) := by subst e_hB; exact T.get_upd_same _ _ _
    have n_hB : hB.nx = h2.nx + 1 + 1 := by subst e_hB; rfl
    have l_hB : hB.lo = h2.lo := by subst e_hB; rfl
    rw [← e_hB]
    clear e_hB
    have hqB : Sl enc5 hB (.slice qx e.Q.length qc) e.Q := by rw [← eq]; exact H.qv.1.le le_hB
    have hsm := hgd.small
    refine cloneR_w e.Q hB _ _ hqB (by omega) (by omega) ?_
    intro q3 h3 ho3 le3
    have n3 := le3.nx
    have l3 := le3.lo
    have gd := (le3.get _ (by omega)).trans gd
    obtain ⟨qx3, qc3, rfl, _⟩ := (show Sl enc5 h3 q3 e.Q from ho3.sl)
    simp(disch:=first|omega|(simp only[Wx];done)|(simp only[Wy];done)|(simp only[Wv];omega)|with_unfolding_all rfl)only[Wz,ptrTo,sliceTo, gd]
    obtain ⟨h4, e4⟩ : ∃ h4 : Heap, h4 = ⟨h3.nx + 1, (h3.bl.upd (h2.nx + 1) (headO e.t e.r (.slice qx3 e.Q.length qc3) e.w)).upd h3.nx (headO e.t e.r (.slice qx3 e.Q.length qc3) e.w), h3.lo⟩ := ⟨_, rfl⟩
    have le4 : Le h2 h4 := by rw [e4]; exact ((le_hB.trans le3).set (b := h2.nx + 1) (by omega) _).new _
    have g4 : h4.bl.get h3.nx = some (cellsO ([(⟨e.t, e.r, 0, 0, .slice qx3 e.Q.length qc3, e.w, e.Q⟩ : HE)].flatMap encH) 56 false) := by rw [e4]; exact T.get_upd_same _ _ _
    have n4 : h4.nx = h3.nx + 1 := by rw [e4]
    have l4 : h4.lo = h3.lo := by rw [e4]
    have hq4 : QV h4 (.slice qx3 e.Q.length qc3) e.Q := by
      rw [e4]
      exact ((QV.own ho3).put (fun vs op => by rw [gd]; exact cells_ty (by decide)) _).le ((Le.refl _).new _)
    try rw [← e4]
    clear e4
    refine append_in (enc := encH) (a := h1) (L := K) (M := [(⟨e.t, e.r, 0, 0, .slice qx3 e.Q.length qc3, e.w, e.Q⟩ : HE)]) encH_len encH_one (by decide) (by decide) (hoK.le le4) (Sl.new (by omega) g4 _) (le2.trans le4) (by simp; omega) (by omega) _ ?_
    intro v5 h5 ho5 le5 _ n5 l5 same5
    have fr5 : ∀ c vs op, c < h4.nx → h4.bl.get c = some (cellsO vs 47 op) → h5.bl.get c = h4.bl.get c := fun c vs op hc hg => same5 c hc (by rw [hg]; exact cells_ty (by decide))
    refine ⟨_, by omega, i + 1, K ++ [⟨e.t, e.r, 0, 0, .slice qx3 e.Q.length qc3, e.w, e.Q⟩], by simp, rfl, by omega, ?_, ?_, ho5, ?_⟩
    · rw [List.map_append, hK, List.take_add_one, hpi]
      rfl
    · intro k hk'
      rcases List.mem_append.1 hk' with hk' | hk'
      · exact ⟨(hQ k hk').1, ((hQ k hk').2.le le4).frame n5 fr5⟩
      · rw [List.mem_singleton] at hk'; subst hk'
        exact ⟨⟨e, he, rfl, rfl, rfl, rfl⟩, hq4.frame n5 fr5⟩
    · exact le5
  · simp(disch:=first|omega|(simp only[Wx];done)|(simp only[Wy];done)|(simp only[Wv];omega)|with_unfolding_all rfl)only[Wz,ptrTo,sliceTo, s1, lt_f (show (D.length : Int) ≤ (i : Int) by omega)]
    have hiD : i = D.length := by omega
    subst hiD
    rw [List.take_length] at hK
    exact hk _ h2 K (by omega) (hK ▸ hp) (hK ▸ hs) hQ (Own.base hoK (by omega)) (le1.trans le2)
end Go.Proofs

namespace Go.Proofs
open Go.Vai Go.Clashes
structure BSt (h : Heap) (bb bm bp bl most cap N : Nat) (M : List HE) (clock : Nat) (F : List Int) (B : List Bool) : Prop where
  is : BucketIs h bb bm bp bl most M clock F B
  ids : IdsOk M B
  wb : ∀ e ∈ M, e.w ≤ N
  len : M.length ≤ most
  cap : B.length = cap
theorem Settled.sub {M M' : List HE} {t r w : Int} {Q : List R5} (s : Settled M M' t r w Q) : ∀ x ∈ M', x ∈ M ∨ (x.t = t ∧ x.r = r ∧ x.w = w ∧ x.Q = Q) := by
  intro x hx
  by_cases h0 : Q = []
  · rw [s.gone h0] at hx; exact .inl (List.mem_filter.1 hx).1
  · obtain ⟨e, h1, h2, h3, h4, hp⟩ := s.put h0
    rcases List.mem_append.1 (hp.mem_iff.1 hx) with hx | hx
    · exact .inl (List.mem_filter.1 hx).1
    · rw [List.mem_singleton] at hx; subst hx; exact .inr ⟨h1, h2, h3, h4⟩
theorem Settled.len {M M' : List HE} {t r w : Int} {Q : List R5} (s : Settled M M' t r w Q) : M'.length ≤ (M.filter fun x => !isN t r x).length + 1 := by
  by_cases h0 : Q = []
  · rw [s.gone h0]; omega
  · obtain ⟨e, _, _, _, _, hp⟩ := s.put h0
    rw [hp.length_eq]; simp
theorem Settled.wb {M M' : List HE} {t r w : Int} {Q : List R5} {N : Nat} (s : Settled M M' t r w Q) (hw : ∀ e ∈ M, e.w ≤ N) (h : w ≤ N + 1) : ∀ e ∈ M', e.w ≤ (N + 1 : Nat) := by
  intro e he
  rcases s.sub e he with h1 | ⟨_, _, h1, _⟩
  · have := hw e h1; omega
  · omega
theorem len_has {M : List HE} {clock : Nat} (o : MapOk M clock) {e : HE} (he : e ∈ M) : (M.filter fun x => !isN e.t e.r x).length + 1 = M.length := by
  have := (split_has o he).length_eq
  rw [this]; simp
theorem askR_w (Q : List R5) (W id x m : Int) : (askR Q W id x m).2.1 ≤ W + 1 := by unfold askR; split <;> simp <;> omega
theorem upgR_w (Q : List R5) (W : Int) (r : R5) (m : Int) : (upgR Q W r m).2.1 ≤ W + 1 := by unfold upgR; split <;> simp <;> omega
theorem upgR_id (Q : List R5) (W : Int) (r : R5) (m : Int) : (upgR Q W r m).1.id = r.id := by unfold upgR; split <;> rfl
theorem map_set_same {Q : List R5} {i : Nat} {p p' : R5} (hi : Q[i]? = some p) (h : p'.id = p.id) : (Q.set i p').map (·.id) = Q.map (·.id) := by
  obtain ⟨hl, rfl⟩ := List.getElem?_eq_some_iff.1 hi
  rw [List.map_set, h]
  refine List.ext_getElem? fun k => ?_
  rw [List.getElem?_set]
  split
  · rename_i e; subst e; simp [hl]
  · rfl
section
variable {h h' : Heap} {bb bm bp bl most cap N : Nat} {M M' : List HE} {clock clock' : Nat} {F F' : List Int} {B B' : List Bool}
theorem BSt.asked (s : BSt h bb bm bp bl most cap N M clock F B) {t r x m : Int} {n : Nat} {g : Bool} (a : Asked h h' bb bm bp bl most M M' clock' F F' B t r x m n g) : BSt h' bb bm bp bl most cap (N + 1) M' clock' F' (B.set n true) := by
  obtain ⟨Q, w, hold, vq, vq', _, hset⟩ := a.set
  have hw : w ≤ N := by
    rcases hold with ⟨e, he, _, _, _, rfl⟩ | ⟨_, _, _, rfl⟩
    · exact s.wb e he
    · omega
  have hrest : (idsM M).Perm (idsM (M.filter fun x => !isN t r x) ++ Q.map (·.id)) ∧ (M.filter fun x => !isN t r x).length + 1 ≤ most := by
    rcases hold with ⟨e, he, rfl, rfl, rfl, rfl⟩ | ⟨hn, hl, rfl, rfl⟩
    · have := idsM_perm (split_has s.is.ok he)
      rw [idsM_append, idsM_one] at this
      exact ⟨this, by rw [len_has s.is.ok he]; exact s.len⟩
    · rw [split_not hn]
      exact ⟨by simp, by omega⟩
  refine ⟨a.is, ?_, hset.wb s.wb (by have := askR_w Q w n x m; omega), by have := hset.len; omega, by rw [List.length_set]; exact s.cap⟩
  refine hset.ids.trans ?_
  rw [scan_ids vq', List.map_append, List.map_cons, List.map_nil, askR_id, ← List.append_assoc]
  exact ((hrest.1.symm.trans s.ids).append_right _).trans (lent_take a.old).symm
theorem BSt.same (s : BSt h bb bm bp bl most cap N M clock F B) {e : HE} (he : e ∈ M) {Q1 : List R5} {w1 : Int} (m : Moved h h' bb bm bp bl most M M' clock' F B e Q1 w1) (hid : Q1.map (·.id) = e.Q.map (·.id)) (hw : w1 ≤ e.w + 1) : BSt h' bb bm bp bl most cap (N + 1) M' clock' F B := by
  have hb := s.wb e he
  refine ⟨m.is, ?_, m.set.wb s.wb (by omega), by have := m.set.len; have := len_has s.is.ok he; have := s.len; omega, s.cap⟩
  refine m.set.ids.trans ?_
  rw [scan_ids m.vq, hid]
  have := idsM_perm (split_has s.is.ok he)
  rw [idsM_append, idsM_one] at this
  exact this.symm.trans s.ids
theorem filter_ids {Q : List R5} {W : Int} (v : VQ Q W) {p : R5} {id : Int} (hf : findQ Q id = some p) : (Q.map (·.id)).Perm ((Q.filter fun r => !placeR id r).map (·.id) ++ [id]) := by
  obtain ⟨hp, rfl⟩ := findQ_some hf
  have hnd : (Q.map (·.id)).Nodup := by
    rw [List.Nodup, List.pairwise_map]
    exact v.pair.imp fun hb => hb.id
  have hnd2 : ((Q.filter fun r => !placeR p.id r).map (·.id)).Nodup := hnd.sublist (List.filter_sublist.map _)
  refine (List.perm_ext_iff_of_nodup hnd (nodup_snoc hnd2 fun hm => ?_)).2 fun x => ?_
  · obtain ⟨q, hq, e⟩ := List.mem_map.1 hm
    have := (List.mem_filter.1 hq).2
    simp [placeR, e] at this
  · rw [List.mem_append, List.mem_singleton, List.mem_map, List.mem_map]
    constructor
    · rintro ⟨q, hq, rfl⟩
      by_cases hqp : q.id = p.id
      · exact .inr hqp
      · exact .inl ⟨q, List.mem_filter.2 ⟨hq, by simp [placeR, hqp]⟩, rfl⟩
    · rintro (⟨q, hq, rfl⟩ | rfl)
      · exact ⟨q, (List.mem_filter.1 hq).1, rfl⟩
      · exact ⟨p, hp, rfl⟩
theorem BSt.left (s : BSt h bb bm bp bl most cap N M clock F B) {e : HE} (he : e ∈ M) {p : R5} {n : Nat} (hf : findQ e.Q (n : Int) = some p) (hb : B[n]? = some true) (m : Moved h h' bb bm bp bl most M M' clock' F' (B.set n false) e (e.Q.filter fun r => !placeR (n : Int) r) e.w) : BSt h' bb bm bp bl most cap (N + 1) M' clock' F' (B.set n false) := by
  have hwb := s.wb e he
  refine ⟨m.is, ?_, m.set.wb s.wb (by omega), by have := m.set.len; have := len_has s.is.ok he; have := s.len; omega, by rw [List.length_set]; exact s.cap⟩
  refine m.set.ids.trans ?_
  rw [scan_ids m.vq]
  have h1 := idsM_perm (split_has s.is.ok he)
  rw [idsM_append, idsM_one] at h1
  have h2 := ((List.Perm.append_left (idsM (M.filter fun x => !isN e.t e.r x)) (filter_ids (s.is.good e he).vq hf)).symm.trans h1.symm).trans (s.ids.trans (lent_give hb))
  rw [← List.append_assoc] at h2
  exact (List.perm_append_right_iff _).1 h2
end
end Go.Proofs

namespace Go.Proofs
open Go.Vai Go.Clashes
theorem fill_map (b : Nat) (n : Int) (p : Addr) (κ : List Value → Prop) : fillB False [(2, 1)] [.map (some b)] [.int .i64 n, .pointer (some p), .map none] κ = κ [.int .i64 n, .pointer (some p), .map (some b)] := by kernel_rfl
theorem bucketNew_w (heads : Nat) (bp : Nat) (h : Heap) (κ : Value → Heap → Prop) (hh : 1 ≤ heads ∧ heads ≤ 64) (hlo : h.lo ≤ h.nx)
    (hk : ∀ h', Le h h' → h'.nx = h.nx + 2 → h'.bl.get h.nx = some (.map [] 0) → h'.bl.get (h.nx + 1) = some (cellsO [.int .i64 (heads : Int), .pointer (some ⟨bp, 0, none⟩), .map (some h.nx)] 88 false) → κ (.tuple ⟨[.pointer (some ⟨h.nx + 1, 0, none⟩), .int .i64 0]⟩) h') :
    CallW Tryz.prog 33 [.int .i64 (heads : Int), .pointer (some ⟨bp, 0, none⟩)] h κ := by
  refine callW_of mixed ?_
  rw [rs_33]
  simp(disch:=first|omega|(simp only[Wx];done)|(simp only[Wy];done)|(simp only[Wv];omega)|with_unfolding_all rfl)only[Wz,ptrTo,sliceTo, lt_f (show (1 : Int) ≤ (heads : Int) by omega), lt_f (show (heads : Int) ≤ 64 by omega), bin_eqP, mapTo, fill_map]
  exact hk _ (((Le.refl h).new _).new _) rfl ((T.get_updne _ _ (by omega)).trans (T.get_upd_same _ _ _)) (T.get_upd_same _ _ _)
theorem made_w (heads most : Nat) (h : Heap) (κ : Value → Heap → Prop) (hh : 1 ≤ heads ∧ heads ≤ 64) (hm : most ≤ 128) (hlo : h.lo ≤ h.nx)
    (hk : ∀ h' bb bm bp bl F, BSt h' bb bm bp bl heads most 0 [] 0 F (List.replicate most false) → h.nx ≤ bb → h.nx ≤ bm → h.nx ≤ bp → h.nx ≤ bl → F.length = most → FrQ bm bp bl h h' → κ (.tuple ⟨[.pointer (some ⟨bb, 0, none⟩), .pointer (some ⟨bp, 0, none⟩), .bool true]⟩) h') :
    CallW Tryz.prog 8 [.int .i64 (heads : Int), .int .i64 (most : Int)] h κ := by
  refine callW_of mixed ?_
  rw [rs_8]
  refine newPool_w most h _ hm hlo ?_
  intro bp bl h1 F p hne h1p h1l hF fr_le _
  have fr : FrP bp bl h h1 := FrP.of_le fr_le
  have n1 := fr.nx
  have l1 := fr.lo
  simp(disch:=first|omega|(simp only[Wx];done)|(simp only[Wy];done)|(simp only[Wv];omega)|with_unfolding_all rfl)only[Wz,ptrTo,sliceTo]
  refine bucketNew_w heads bp h1 _ hh (by omega) ?_
  intro h2 le2 n2 g1 g2
  have l2 := le2.lo
  simp(disch:=first|omega|(simp only[Wx];done)|(simp only[Wy];done)|(simp only[Wv];omega)|with_unfolding_all rfl)only[Wz,ptrTo,sliceTo]
  refine hk h2 (h1.nx + 1) h1.nx bp bl F ⟨⟨by omega, by omega, by omega, g2, g1, ⟨List.Pairwise.nil, List.Pairwise.nil, fun e he => (nomatch he)⟩, fun e he => (nomatch he), fun e he => (nomatch he), p.le le2, hne⟩, ?_, fun e he => (nomatch he), by simp, by simp⟩ (by omega) (by omega) h1p h1l hF ((FrQ.of_P fr).trans (FrQ.of_le le2))
  have : lentL (List.replicate most false) = [] := by
    rw [List.eq_nil_iff_forall_not_mem]
    intro x hx
    obtain ⟨n, _, hn⟩ := mem_lent.1 hx
    rw [List.getElem?_replicate] at hn
    split at hn <;> simp at hn
  unfold IdsOk
  rw [this]
  exact List.Perm.refl _
def pickM (n m : Int) : Int := if m < 1 then 0 else if Int.tmod n m < 0 then Int.tmod n m + m else Int.tmod n m
theorem pickM_range {n m : Int} (h : 0 < m) : 0 ≤ pickM n m ∧ pickM n m < m := by
  unfold pickM
  rw [if_neg (by omega)]
  have h2 := Int.tmod_lt_of_pos n h
  have h3 := Int.lt_tmod_of_pos n h
  split <;> omega
theorem pick_w (n m : Int) (hm : m ≤ 9223372036854775807) {h : Heap} {κ : Value → Heap → Prop} (hk : κ (.int .i64 (pickM n m)) h) : CallW Tryz.prog 7 [.int .i64 n, .int .i64 m] h κ := by
  refine pureW (v := .int .i64 (pickM n m)) rfl rfl (callW_of mixed ?_) hk
  rw [rs_7]
  by_cases h1 : m < 1
  · simp(disch:=first|omega|(simp only[Wx];done)|(simp only[Wy];done)|(simp only[Wv];omega)|with_unfolding_all rfl)only[Wz,ptrTo,sliceTo]; simp [pickM, h1]
  · have h2 := Int.tmod_lt_of_pos n (show 0 < m by omega)
    have h3 := Int.lt_tmod_of_pos n (show 0 < m by omega)
    simp(disch:=first|omega|(simp only[Wx];done)|(simp only[Wy];done)|(simp only[Wv];omega)|with_unfolding_all rfl)only[Wz,ptrTo,sliceTo, rs_7_0, bin_rem _ _ _ _ _ m _ _ (by omega)]
    refine ⟨fun l h' => slot l 5 = .int .i64 (pickM n m), ?_, fun l h' hs => hs⟩
    by_cases h4 : Int.tmod n m < 0
    · simp(disch:=first|omega|(simp only[Wx];done)|(simp only[Wy];done)|(simp only[Wv];omega)|with_unfolding_all rfl)only[Wz,ptrTo,sliceTo]; simp [pickM, h1, h4]
    · simp(disch:=first|omega|(simp only[Wx];done)|(simp only[Wy];done)|(simp only[Wv];omega)|with_unfolding_all rfl)only[Wz,ptrTo,sliceTo]; simp [pickM, h1, h4]
end Go.Proofs

namespace Go.Proofs
open Go.Vai Go.Clashes
theorem lives_a : answersS Tryz.prog 400 6 [] (.bool true) = true := by kernel_rfl
structure Act where
  k : Int
  t : Int
  r : Int
  id : Int
  x : Int
  m : Int
def encA (a : Act) : List Value := [.int .i64 a.k, .int .i64 a.t, .int .i64 a.r, .int .i64 a.id, .int .i64 a.x, .int .i64 a.m]
theorem encA_len (a : Act) : (encA a).length = 6 := rfl
end Go.Proofs
