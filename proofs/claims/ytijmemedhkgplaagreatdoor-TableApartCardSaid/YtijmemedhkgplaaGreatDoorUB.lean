/-
  PROVED HERE: a part of the proof, by a calculus of weakest conditions over an abstract heap (U9, U10, U11, U12, U13).
-/
import Derived.Test.YtijmemedhkgplaaGreatDoorUA
import Derived.Test.YtijmemedhkgplaaGreatDoorKE
import Derived.Test.YtijmemedhkgplaaGreatDoorKF
import Derived.Shelf.SlSortCmp.NoneTotal
import Derived.Deep.DeepFit
import Derived.Test.YtijmemedhkgplaaGreatDoorKG
set_option linter.unusedVariables false
set_option linter.unusedSimpArgs false
set_option maxRecDepth 100000
set_option maxHeartbeats 1000000
set_option maxHeartbeats 4000000
namespace Go.Proofs
open Go.Vai Go.Clashes
/-! ## heads, sorted by their names -/
structure HC where
  t : Int
  r : Int
  a : Option Addr
  n : Nat
  c : Nat
  w : Int
instance : Inhabited HC := ⟨⟨0, 0, none, 0, 0, 0⟩⟩
def encHC (x : HC) : List Value := [.int .i64 x.t, .int .i64 x.r, .slice x.a x.n x.c, .int .i64 x.w]
def cfH (x y : HC) : Int := cfN (x.t, x.r) (y.t, y.r)
theorem swoH : Go.Sort.SWO (ltOf cfH) where
  irrefl x := swoN.irrefl (x.t, x.r)
  trans x y z h1 h2 := swoN.trans (x.t, x.r) (y.t, y.r) (z.t, z.r) h1 h2
  ntrans x y z h1 h2 := swoN.ntrans (x.t, x.r) (y.t, y.r) (z.t, z.r) h1 h2
theorem nmCompareW (t r t' r' : Int) (W : World) : Calls Tryz.prog 54 #[.agg #[.int .i64 t, .int .i64 r], .agg #[.int .i64 t', .int .i64 r']] W fun e w' => e = .returned (.int .i64 (nmCmp t r t' r')) ∧ ∃ q os', w' = Go.Sort.grow (W.drewN q) os' :=
  grown_call (args := [nmV t r, nmV t' r']) (args' := [nmV t r, nmV t' r']) (nmCompare_w t r t' r' rfl) (.cons (VR.agg' (.cons (.int _ _) (.cons (.int _ _) .nil))) (.cons (VR.agg' (.cons (.int _ _) (.cons (.int _ _) .nil))) .nil)) rfl W
theorem closureH (x y : HC) (W : World) : Calls Tryz.prog 53 #[.agg #[.int .i64 x.t, .int .i64 x.r, .slice x.a x.n x.c, .int .i64 x.w], .agg #[.int .i64 y.t, .int .i64 y.r, .slice y.a y.n y.c, .int .i64 y.w]] W fun e w' => e = .returned (.int .i64 (cfH x y)) ∧ ∃ q os', w' = Go.Sort.grow (W.drewN q) os' := by
  have hcon := fun W' => nmCompareW x.t x.r y.t y.r W'
  show Calls _ _ _ _ fun e w' => e = .returned (.int .i64 (nmCmp x.t x.r y.t y.r)) ∧ _
  generalize nmCmp x.t x.r y.t y.r = v at hcon ⊢
  generalize x.t = xt, x.r = xr, y.t = yt, y.r = yr at *
  go_enter Tryz.func53, Tryz.ntmps53
  go_wp2_with (go_at_call 54; refine (hcon _).mono ?_; rintro e w' ⟨rfl, q, os', rfl⟩)
  go_ret
  refine ⟨rfl, ?_⟩
  rw [Go.Sort.alloc_eq_grow, Go.Sort.alloc_eq_grow, Go.Sort.grow_grow]
  exact ⟨q, _, (show Go.Sort.grow (Go.Sort.grow (W.drewN q) _) os' = _ from Go.Sort.grow_grow _ _ _)⟩
theorem cmpLaysH (blk size : Nat) (w : World) : Go.Proofs.CmpLays Tryz.prog 53 #[] encHC 4 cfH blk 0 size w := by
  intro m os dk _ x y
  exact closureH x y _
theorem entersSortH : ∀ args w, (callFunc 52 args).run Tryz.prog w = .ok (.enter 52 args) w := enters_of Tryz.func52 (by kernel_rfl) rfl
theorem sortHead_law (blk cap : Nat) (d : Array HC) (w : World) (hH : Go.Sort.HoldsK encHC 4 w blk 0 d) (hblk : blk < w.heap.size) (hsz : d.size < 4611686018427387904) :
    Calls Tryz.prog 52 #[.slice (some ⟨blk, 0, none⟩) d.size cap, .func (.func 53) #[] #[]] w fun e w' => e = .returned (.tuple #[]) ∧ ∃ d' n os, Go.Sort.PermIn 0 d.size d d' ∧ Go.Sort.SortedIn (fun x y => ltOf cfN (x.t, x.r) (y.t, y.r)) 0 d.size d' ∧ w' = Go.Proofs.sortWorldK encHC 4 w blk 0 n d' os := by
  have eg : ∀ args w, (callFunc 53 args).run Tryz.prog w = .ok (.enter 53 args) w := enters_of Tryz.func53 (by kernel_rfl) rfl
  exact Go.Proofs.AnyQ.slices_SortFunc Tryz.sortHead 4 Tryz.isAgg51 Tryz.sizeOf51 encHC (fun _ => rfl) (fun x v hv => by simp [encHC] at hv; rcases hv with rfl | rfl | rfl | rfl <;> rfl) cfH swoH 53 #[] blk 0 cap d w eg (cmpLaysH blk d.size w) hH hblk hsz
theorem sortHead_none (p : Option Addr) (cap : Nat) (fv : Value) (w : World) : Calls Tryz.prog 52 #[.slice p 0 cap, fv] w fun e w' => e = .returned (.tuple #[]) ∧ w' = w := Go.Proofs.AnyF.slices_SortFunc_none Tryz.sortHead p cap fv w
theorem slV_form (q : Value) : ∃ a n c, slV q = .slice a n c := by
  unfold slV
  split
  · exact ⟨_, _, _, rfl⟩
  · exact ⟨_, _, _, rfl⟩
theorem VR.toSlice {φ : Emb} {a : Option Addr} {n c : Nat} {v : Value} (h : VR φ (.slice a n c) v) : ∃ a' n' c', v = .slice a' n' c' := by
  cases h <;> exact ⟨_, _, _, rfl⟩
theorem decH (φ : Emb) (x : HE) (cs : List Value) (h : F2 (VR φ) (encH x) cs) : ∃ y : HC, cs = encHC y ∧ (x.t, x.r) = (y.t, y.r) := by
  obtain ⟨a, n, c, e⟩ := slV_form x.q
  unfold encH at h
  rw [e] at h
  cases h with | cons h1 h =>
  cases h with | cons h2 h =>
  cases h with | cons h3 h =>
  cases h with | cons h4 h =>
  cases h
  cases h1; cases h2; cases h4
  obtain ⟨a', n', c', rfl⟩ := VR.toSlice h3
  exact ⟨⟨x.t, x.r, a', n', c', x.w⟩, rfl, rfl⟩
theorem sortH_w (a h : Heap) (K : List HE) (v : Value) (κ : Value → Heap → Prop) (ho : OwnH a h v K) (hle : Le a h) (hl : K.length ≤ 1000000)
    (hk : ∀ (D : List HE) h', D.Perm K → D.Pairwise (fun x y => ¬ ltN (y.t, y.r) (x.t, x.r)) → OwnH a h' v D → Le a h' → (h'.nx = h.nx ∧ ∀ c, c < h.nx → h.bl.get c ≠ some (cellsO (K.flatMap encH) 51 true) → h'.bl.get c = h.bl.get c) → κ (.tuple ⟨[]⟩) h') : CallW Tryz.prog 52 [v, .func (.func 53) #[] #[]] h κ := by
  rcases ho with ⟨rfl, hv⟩ | ⟨b, hv, h1, h2, h3, h4⟩
  · exact sort_none entersSortH sortHead_none hv (hk [] h (List.Perm.refl _) List.Pairwise.nil (.inl ⟨rfl, hv⟩) hle ⟨rfl, fun _ _ _ => rfl⟩)
  · cases hv
    refine sort_in (by decide) (enc := encHC) (encA := encH) (fun _ => rfl) encH_len (kA := fun x => (x.t, x.r)) (kC := fun x => (x.t, x.r)) (lt := fun x y => ltOf cfN x y) decH entersSortH sortHead_law h4 h3 hl ?_
    intro D hp hs
    refine hk D _ hp (hs.imp fun {x y} h => cfN_f.1 h) (.inr ⟨b, by rw [hp.length_eq], h1, h2, h3, T.get_upd_same _ _ _⟩) ⟨hle.nx, hle.lo, fun c hc => ?_⟩ ⟨rfl, fun c hc hne => ?_⟩
    · exact (T.get_updne _ _ (by omega)).trans (hle.get c hc)
    · refine T.get_updne _ _ ?_
      rintro rfl
      exact hne h4
end Go.Proofs

namespace Go.Proofs
open Go.Vai Go.Clashes
/-- a list of all heads of a table that was told, still there -/
structure TTold (h : Heap) (Ts : List TB) (v : Value) (K : List HE) : Prop where
  perm : (K.map nmOf).Perm (Ts.flatMap fun b => b.M.map nmOf)
  srt : (K.map nmOf).Pairwise ltN
  each : ∀ k ∈ K, (∃ b ∈ Ts, ∃ e ∈ b.M, SameH k e) ∧ QV h k.q k.Q
  sl : Sl encH h v K
  ty : TyS 51 h v
theorem TTold.le {h h' : Heap} {Ts : List TB} {v : Value} {K : List HE} (t : TTold h Ts v K) (l : Le h h') : TTold h' Ts v K :=
  ⟨t.perm, t.srt, fun k hk => ⟨(t.each k hk).1, (t.each k hk).2.le l⟩, t.sl.le l, t.ty.le l⟩
theorem FrT.keep {h h' : Heap} {tb bw bp bl : Nat} {c : Caps} {vb : Value} {heads : Nat} {Ts : List TB} {W : List IE} {wc : Nat} {F : List Int} {B : List Bool} (s : TableIs h tb bw bp bl c vb heads Ts W wc F B) (f : FrT Ts bw bp bl h h') {d : Nat} {vs : List Value} {ty : TypeId} {op : Bool} (hd : d < h.nx) (hg : h.bl.get d = some (cellsO vs ty op)) (h1 : ty ≠ 132) (h2 : ty ≠ 4) (h3 : ty ≠ 3) : h'.bl.get d = h.bl.get d := by
  obtain ⟨fs, hgp, hpt⟩ := s.pool.fr.cell
  have gl := s.pool.cell
  have gw := s.cellw
  refine f.get d hd (fun b hb => ?_) (by rintro rfl; rw [hg] at gw; exact cells_map gw.symm) (by rintro rfl; rw [hg] at hgp; exact cells_ty h1 hgp) (by rintro rfl; rw [hg] at gl; exact cells_ty h2 gl) fun ws => by rw [hg]; exact cells_ty h3
  rintro rfl
  have gm := (s.bk b hb).cellm
  rw [hg] at gm
  exact cells_map gm.symm
theorem TTold.keep {h h' : Heap} {tb bw bp bl : Nat} {c : Caps} {vb : Value} {heads : Nat} {Ts Ts0 : List TB} {W : List IE} {wc : Nat} {F : List Int} {B : List Bool} (s : TableIs h tb bw bp bl c vb heads Ts W wc F B) (f : FrT Ts bw bp bl h h') {v : Value} {K : List HE} (t : TTold h Ts0 v K) : TTold h' Ts0 v K := by
  have fn := f.nx
  have k1 := Sl.keepTy t.sl t.ty fn fun d vs op hc hg => f.keep s hc hg (by decide) (by decide) (by decide)
  exact ⟨t.perm, t.srt, fun k hk => ⟨(t.each k hk).1, (t.each k hk).2.frame fn fun d vs op hc hg => f.keep s hc hg (by decide) (by decide) (by decide)⟩, k1.1, k1.2⟩
section
variable {h : Heap} {tb bw bp bl : Nat} {c : Caps} {vb : Value} {heads N : Nat} {Ts : List TB} {W : List IE} {wc : Nat} {F : List Int} {B : List Bool}
/-- no name stands in two buckets, nor twice in one -/
theorem TSt.nodup (s : TSt h tb bw bp bl c vb heads N Ts W wc F B) : (Ts.flatMap fun b => b.M.map nmOf).Nodup := by
  rw [List.Nodup, List.pairwise_flatMap]
  constructor
  · intro b hb
    rw [List.pairwise_map]
    exact (s.is.bk b hb).ok.nm.imp fun hn e => hn ⟨congrArg Prod.fst e, congrArg Prod.snd e⟩
  · rw [pw_get]
    intro i j p q hij hp hq x hx y hy hxy
    obtain ⟨e, he, rfl⟩ := List.mem_map.1 hx
    obtain ⟨f, hf, rfl⟩ := List.mem_map.1 hy
    have h1 := s.nm i p hp e he
    have h2 := s.nm j q hq f hf
    have e1 : e.t = f.t := congrArg Prod.fst hxy
    have e2 : e.r = f.r := congrArg Prod.snd hxy
    rw [e1, e2, h2] at h1
    omega
theorem flat_take {α β : Type} (f : α → List β) {L : List α} {i : Nat} {b : α} (h : L[i]? = some b) : (L.take (i + 1)).flatMap f = (L.take i).flatMap f ++ f b := by
  rw [List.take_add_one, h, List.flatMap_append]
  simp
theorem tSnap_w (s : TSt h tb bw bp bl c vb heads N Ts W wc F B) (hlo : h.lo ≤ h.nx) (κ : Value → Heap → Prop) (hk : ∀ v h' K, TTold h' Ts v K → Le h h' → κ v h') :
    CallW Tryz.prog 15 [.pointer (some ⟨tb, 0, none⟩)] h κ := by
  refine callW_of mixed ?_
  rw [rs_15]
  have gt := s.is.cellt
  have hs1 := s.is.s1
  obtain ⟨vx, vc, ev, _⟩ := (show Sl encTB h vb Ts from s.is.sl)
  have hlenb : ∀ (β : Type) (fl : β) (h' : Heap) (κ : Value → Heap → β), lenSli fl vb h' κ = κ (.int .i64 (Ts.length : Int)) h' := fun β fl h' κ => by rw [ev]; exact lenSli_eq _ _ _ _ _
  simp (disch := first | omega | (simp only [Wx]; done) | (simp only [Wy]; done) | (simp only [Wv]; omega) | with_unfolding_all rfl) only [Wz, ptrTo, sliceTo, bin_eqTb, nil_at, gt, hlenb]
  have hdle := s.is.hd
  refine ⟨fun n l h1 => ∃ (i : Nat) (K : List HE), slot l 10 = .int .i64 (i : Int) ∧ n = Ts.length - i ∧ i ≤ Ts.length ∧ (K.map nmOf).Perm ((Ts.take i).flatMap fun b => b.M.map nmOf) ∧ (∀ k ∈ K, (∃ b ∈ Ts, ∃ e ∈ b.M, SameH k e) ∧ QV h1 k.q k.Q) ∧ K.length ≤ 64 * i ∧ OwnH h h1 (slot l 8) K ∧ Le h h1,
    ⟨_, 0, [], rfl, rfl, by omega, by simp, fun k hk => (nomatch hk), by simp, .inl ⟨rfl, .inl rfl⟩, Le.refl _⟩, ?_⟩
  rintro n l h1 ⟨i, K, s1, rfl, hi, hp, hE, hKl, ho, le1⟩
  have n1 := le1.nx
  have l1 := le1.lo
  by_cases hlt : i < Ts.length
  · obtain ⟨b, hb⟩ : ∃ b, Ts[i]? = some b := ⟨_, List.getElem?_eq_getElem hlt⟩
    have hbT := List.mem_of_getElem? hb
    obtain ⟨cc, oo, _, hix, hld⟩ := ldTB s.is.sl i hb
    have hld := hld h1 le1
    have sb := (s.is.bk b hbT).le le1
    have hbl := s.len b hbT
    simp (disch := first | omega | (simp only [Wx]; done) | (simp only [Wy]; done) | (simp only [Wv]; omega) | with_unfolding_all rfl) only [Wz, ptrTo, sliceTo, rs_15_0, s1, lt_t (show (i : Int) < (Ts.length : Int) by omega), hix, hld]
    refine headsBk_w sb (by omega) (by omega) _ ?_
    intro v2 h2 K2 hK2 hp2 hs2 hE2 ho2 le2
    have n2 := le2.nx
    have l2 := le2.lo
    refine append_in (enc := encH) (a := h) (L := K) (M := K2) encH_len encH_one (by decide) (by decide) (ho.le le2) ho2.sl (le1.trans le2) (by omega) (by omega) _ ?_
    intro v5 h5 ho5 le5 _ n5 l5 same5
    have fr5 : ∀ d vs op, d < h2.nx → h2.bl.get d = some (cellsO vs 54 op) → h5.bl.get d = h2.bl.get d := fun d vs op hc hg => same5 d hc (by rw [hg]; exact cells_ty (by decide))
    refine ⟨_, by omega, i + 1, K ++ K2, rfl, rfl, by omega, ?_, ?_, by rw [List.length_append]; omega, ho5, le5⟩
    · rw [flat_take _ hb, List.map_append]
      exact hp.append hp2
    · intro k hk'
      rcases List.mem_append.1 hk' with hk' | hk'
      · exact ⟨(hE k hk').1, ((hE k hk').2.le le2).frame n5 fr5⟩
      · obtain ⟨e, he, se⟩ := (hE2 k hk').1
        exact ⟨⟨b, hbT, e, he, se⟩, (hE2 k hk').2.frame n5 fr5⟩
  · have hil : i = Ts.length := by omega
    subst hil
    rw [List.take_length] at hp
    simp (disch := first | omega | (simp only [Wx]; done) | (simp only [Wy]; done) | (simp only [Wv]; omega) | with_unfolding_all rfl) only [Wz, ptrTo, sliceTo, rs_15_0, s1, lt_f (show (Ts.length : Int) ≤ (Ts.length : Int) by omega)]
    refine sortH_w h h1 K _ _ ho le1 (by omega) ?_
    intro D h' hD hpw ho' le' hfr
    have hnd : (D.map nmOf).Nodup := (((hD.map nmOf).trans hp).nodup_iff).2 s.nodup
    refine hk _ h' D ⟨(hD.map nmOf).trans hp, ?_, fun k hk' => ?_, ho'.sl, TyS.own ho'⟩ le'
    · have h1 : (D.map nmOf).Pairwise fun x y => ¬ ltN y x := by
        rw [List.pairwise_map]
        exact hpw.imp fun {x y} h => h
      exact (hnd.and h1).imp fun {x y} ⟨hne, hn⟩ => ltN_tri (fun e => hne e.symm) hn
    · have := hE k (hD.mem_iff.1 hk')
      exact ⟨this.1, this.2.frame (by omega) fun d vs op hc hg => hfr.2 d hc (by rw [hg]; exact cells_ty (by decide))⟩
end
end Go.Proofs

namespace Go.Proofs
open Go.Vai Go.Clashes
/-! ## what all hold -/
structure L4 where
  x : Int
  t : Int
  r : Int
  m : Int
theorem l4_ext {p q : L4} : p = q ↔ (p.x = q.x ∧ p.t = q.t ∧ p.r = q.r ∧ p.m = q.m) := by cases p; cases q; simp
instance : DecidableEq L4 := fun p q => decidable_of_iff _ l4_ext.symm
instance : Inhabited L4 := ⟨⟨0, 0, 0, 0⟩⟩
def encL (a : L4) : List Value := [.int .i64 a.x, .int .i64 a.t, .int .i64 a.r, .int .i64 a.m]
theorem encL_len (a : L4) : (encL a).length = 4 := rfl
theorem encL_one (a : L4) : (encL a).all oneC = true := rfl
def cfL (a b : L4) : Int := if cmpI a.x b.x = 0 then nmCmp a.t a.r b.t b.r else cmpI a.x b.x
def ltL (a b : L4) : Prop := a.x < b.x ∨ (a.x = b.x ∧ ltN (a.t, a.r) (b.t, b.r))
theorem cfL_lt (a b : L4) : ltOf cfL a b = true ↔ ltL a b := by
  show decide (cfL a b < 0) = true ↔ _
  rw [decide_eq_true_eq]
  have := nmCmp_lt (a.t, a.r) (b.t, b.r)
  unfold cfL ltL
  split
  · rename_i h
    have hx : a.x = b.x := by unfold cmpI at h; split at h <;> (try split at h) <;> omega
    rw [this]
    constructor
    · exact fun h => .inr ⟨hx, h⟩
    · rintro (h | h)
      · omega
      · exact h.2
  · rename_i h
    unfold cmpI at *
    split
    · exact ⟨fun _ => .inl (by assumption), fun _ => by decide⟩
    · rename_i h1
      rw [if_neg h1] at h
      split
      · exact ⟨fun h => by omega, fun h => by rcases h with h | h <;> omega⟩
      · rename_i h2; rw [if_neg h2] at h; exact absurd rfl h
theorem cfL_f {a b : L4} : ltOf cfL a b = false ↔ ¬ ltL a b := by rw [← cfL_lt, Bool.not_eq_true]
theorem ltL_trans {a b c : L4} (h1 : ltL a b) (h2 : ltL b c) : ltL a c := by unfold ltL ltN at *; simp only at *; omega
theorem swoL : Go.Sort.SWO (ltOf cfL) where
  irrefl x := cfL_f.2 (by unfold ltL ltN; simp only; omega)
  trans x y z h1 h2 := (cfL_lt _ _).2 (ltL_trans ((cfL_lt _ _).1 h1) ((cfL_lt _ _).1 h2))
  ntrans x y z h1 h2 := by
    rw [cfL_f] at *
    unfold ltL ltN at *
    simp only at *
    omega
theorem allC_w (a b : L4) {h : Heap} {κ : Value → Heap → Prop} (hk : κ (.int .i64 (cfL a b)) h) : CallW Tryz.prog 56 [.agg ⟨encL a⟩, .agg ⟨encL b⟩] h κ := by
  refine pureW (v := .int .i64 (cfL a b)) rfl rfl (callW_of mixed ?_) hk
  rw [rs_56]
  simp (disch := first | omega | (simp only [Wx]; done) | (simp only [Wy]; done) | (simp only [Wv]; omega) | with_unfolding_all rfl) only [Wz, ptrTo, sliceTo, encL]
  refine compareI_w _ _ ?_
  simp (disch := first | omega | (simp only [Wx]; done) | (simp only [Wy]; done) | (simp only [Wv]; omega) | with_unfolding_all rfl) only [Wz, ptrTo, sliceTo]
  refine nmCompare_w _ _ _ _ ?_
  simp (disch := first | omega | (simp only [Wx]; done) | (simp only [Wy]; done) | (simp only [Wv]; omega) | with_unfolding_all rfl) only [Wz, ptrTo, sliceTo]
  refine or_w _ _ _ _ (Sl.new (L := [cmpI a.x b.x, nmCmp a.t a.r b.t b.r]) (e := 3) (op := false) (Nat.lt_succ_self _) (T.get_upd_same _ _ _) _) _ ?_
  rfl
theorem cmpLaysL (blk size : Nat) (w : World) : Go.Proofs.CmpLays Tryz.prog 56 #[] encL 4 cfL blk 0 size w := by
  intro m os dk _ x y
  exact grown_call (args := [.agg ⟨encL x⟩, .agg ⟨encL y⟩]) (args' := [.agg ⟨encL x⟩, .agg ⟨encL y⟩]) (allC_w x y rfl)
    (.cons (VR.agg' (.cons (.int _ _) (.cons (.int _ _) (.cons (.int _ _) (.cons (.int _ _) .nil))))) (.cons (VR.agg' (.cons (.int _ _) (.cons (.int _ _) (.cons (.int _ _) (.cons (.int _ _) .nil))))) .nil)) rfl _
theorem entersSortL : ∀ args w, (callFunc 55 args).run Tryz.prog w = .ok (.enter 55 args) w := enters_of Tryz.func55 (by kernel_rfl) rfl
theorem sortHeld_law (blk cap : Nat) (d : Array L4) (w : World) (hH : Go.Sort.HoldsK encL 4 w blk 0 d) (hblk : blk < w.heap.size) (hsz : d.size < 4611686018427387904) :
    Calls Tryz.prog 55 #[.slice (some ⟨blk, 0, none⟩) d.size cap, .func (.func 56) #[] #[]] w fun e w' => e = .returned (.tuple #[]) ∧ ∃ d' n os, Go.Sort.PermIn 0 d.size d d' ∧ Go.Sort.SortedIn (fun x y => ltOf cfL x y) 0 d.size d' ∧ w' = Go.Proofs.sortWorldK encL 4 w blk 0 n d' os := by
  have eg : ∀ args w, (callFunc 56 args).run Tryz.prog w = .ok (.enter 56 args) w := enters_of Tryz.func56 (by kernel_rfl) rfl
  exact Go.Proofs.AnyQ.slices_SortFunc Tryz.sortHeld 4 Tryz.isAgg57 Tryz.sizeOf57 encL (fun _ => rfl) (fun x v hv => by simp [encL] at hv; rcases hv with rfl | rfl | rfl | rfl <;> rfl) cfL swoL 56 #[] blk 0 cap d w eg (cmpLaysL blk d.size w) hH hblk hsz
theorem sortHeld_none (p : Option Addr) (cap : Nat) (fv : Value) (w : World) : Calls Tryz.prog 55 #[.slice p 0 cap, fv] w fun e w' => e = .returned (.tuple #[]) ∧ w' = w := Go.Proofs.AnyF.slices_SortFunc_none Tryz.sortHeld p cap fv w
theorem decL (φ : Emb) (x : L4) (cs : List Value) (h : F2 (VR φ) (encL x) cs) : ∃ y : L4, cs = encL y ∧ x = y := by
  unfold encL at h
  cases h with | cons h1 h =>
  cases h with | cons h2 h =>
  cases h with | cons h3 h =>
  cases h with | cons h4 h =>
  cases h
  cases h1; cases h2; cases h3; cases h4
  exact ⟨x, rfl, rfl⟩
abbrev OwnL (a h : Heap) (v : Value) (L : List L4) : Prop := Own encL a 57 h v L
theorem sortL_w (a h : Heap) (L : List L4) (v : Value) (κ : Value → Heap → Prop) (ho : OwnL a h v L) (hle : Le a h) (hl : L.length ≤ 1000000)
    (hk : ∀ (D : List L4) h', D.Perm L → D.Pairwise (fun x y => ¬ ltL y x) → OwnL a h' v D → Le a h' → κ (.tuple ⟨[]⟩) h') : CallW Tryz.prog 55 [v, .func (.func 56) #[] #[]] h κ := by
  rcases ho with ⟨rfl, hv⟩ | ⟨b, hv, h1, h2, h3, h4⟩
  · exact sort_none entersSortL sortHeld_none hv (hk [] h (List.Perm.refl _) List.Pairwise.nil (.inl ⟨rfl, hv⟩) hle)
  · cases hv
    refine sort_in (by decide) (enc := encL) (encA := encL) encL_len encL_len (kA := id) (kC := id) (lt := fun x y => ltOf cfL x y) decL entersSortL sortHeld_law h4 h3 hl ?_
    intro D hp hs
    refine hk D _ hp (hs.imp fun {x y} h => cfL_f.1 h) (.inr ⟨b, by rw [hp.length_eq], h1, h2, h3, T.get_upd_same _ _ _⟩) ⟨hle.nx, hle.lo, fun c hc => ?_⟩
    exact (T.get_updne _ _ (by omega)).trans (hle.get c hc)
/-- what is held of one name -/
def heldQ (t r : Int) (Q : List R5) : List L4 := (Q.filter fun p => decide (p.m ≠ 0)).map fun p => ⟨p.x, t, r, p.m⟩
def heldE (e : HE) : List L4 := heldQ e.t e.r e.Q
theorem heldQ_take {t r : Int} {Q : List R5} {j : Nat} {p : R5} (h : Q[j]? = some p) : heldQ t r (Q.take (j + 1)) = heldQ t r (Q.take j) ++ (if p.m ≠ 0 then [⟨p.x, t, r, p.m⟩] else []) := by
  unfold heldQ
  rw [List.take_add_one, h]
  simp only [Option.toList_some, List.filter_append, List.map_append]
  congr 1
  by_cases hm : p.m ≠ 0
  · rw [if_pos hm, List.filter_cons_of_pos (by simpa using hm)]; rfl
  · rw [if_neg hm, List.filter_cons_of_neg (by simpa using hm)]; rfl
theorem heldQ_len {t r : Int} (Q : List R5) : (heldQ t r Q).length ≤ Q.length := by
  unfold heldQ
  rw [List.length_map]
  exact List.length_filter_le _ _
end Go.Proofs

namespace Go.Proofs
open Go.Vai Go.Clashes
/-- a list of all that is held, that was told, still there -/
structure ATold (h : Heap) (Ts : List TB) (v : Value) (D : List L4) (K : List HE) : Prop where
  names : (K.map nmOf).Perm (Ts.flatMap fun b => b.M.map nmOf)
  srtK : (K.map nmOf).Pairwise ltN
  each : ∀ k ∈ K, ∃ b ∈ Ts, ∃ e ∈ b.M, SameH k e
  perm : D.Perm (K.flatMap heldE)
  srt : D.Pairwise fun x y => ¬ ltL y x
  sl : Sl encL h v D
  ty : TyS 57 h v
theorem ATold.le {h h' : Heap} {Ts : List TB} {v : Value} {D : List L4} {K : List HE} (t : ATold h Ts v D K) (l : Le h h') : ATold h' Ts v D K := ⟨t.names, t.srtK, t.each, t.perm, t.srt, t.sl.le l, t.ty.le l⟩
theorem ATold.keep {h h' : Heap} {tb bw bp bl : Nat} {c : Caps} {vb : Value} {heads : Nat} {Ts Ts0 : List TB} {W : List IE} {wc : Nat} {F : List Int} {B : List Bool} (s : TableIs h tb bw bp bl c vb heads Ts W wc F B) (f : FrT Ts bw bp bl h h') {v : Value} {D : List L4} {K : List HE} (t : ATold h Ts0 v D K) : ATold h' Ts0 v D K := by
  have k1 := Sl.keepTy t.sl t.ty f.nx fun d vs op hc hg => f.keep s hc hg (by decide) (by decide) (by decide)
  exact ⟨t.names, t.srtK, t.each, t.perm, t.srt, k1.1, k1.2⟩
section
variable {h : Heap} {tb bw bp bl : Nat} {c : Caps} {vb : Value} {heads N : Nat} {Ts : List TB} {W : List IE} {wc : Nat} {F : List Int} {B : List Bool}
theorem heldE_take {K : List HE} {i : Nat} {e : HE} (h : K[i]? = some e) : (K.take (i + 1)).flatMap heldE = (K.take i).flatMap heldE ++ heldE e := flat_take heldE h
theorem held_bound {K : List HE} (hs : ∀ k ∈ K, k.Q.length ≤ 128) : (K.flatMap heldE).length ≤ 128 * K.length := by
  induction K with
  | nil => simp
  | cons k K ih =>
    rw [List.flatMap_cons, List.length_append, List.length_cons]
    have h1 := ih fun x hx => hs x (.tail _ hx)
    have h2 := heldQ_len (t := k.t) (r := k.r) k.Q
    have h3 := hs k (.head _)
    have h4 : (heldE k).length ≤ 128 := Nat.le_trans h2 h3
    omega
theorem tAll_w (s : TSt h tb bw bp bl c vb heads N Ts W wc F B) (hlo : h.lo ≤ h.nx) (κ : Value → Heap → Prop) (hk : ∀ v h' D K, ATold h' Ts v D K → Le h h' → κ v h') :
    CallW Tryz.prog 16 [.pointer (some ⟨tb, 0, none⟩)] h κ := by
  refine callW_of mixed ?_
  rw [rs_16]
  refine tSnap_w s hlo _ ?_
  intro v0 h0 K t0 le0
  have n0 := le0.nx
  have l0 := le0.lo
  obtain ⟨x0, c0, ev0, _⟩ := (show Sl encH h0 v0 K from t0.sl)
  have hlen0 : ∀ (β : Type) (fl : β) (h' : Heap) (κ : Value → Heap → β), lenSli fl v0 h' κ = κ (.int .i64 (K.length : Int)) h' := fun β fl h' κ => by rw [ev0]; exact lenSli_eq _ _ _ _ _
  have hKs : ∀ k ∈ K, k.Q.length ≤ 128 := by
    intro k hk'
    obtain ⟨⟨b, hb, e, he, se⟩, _⟩ := t0.each k hk'
    have := ((s.is.bk b hb).good e he).small
    rw [se.2.2.2]; exact this
  have hKl : K.length ≤ 1024 := by
    have h1 := t0.perm.length_eq
    rw [List.length_map] at h1
    rw [h1]
    have h2 := s.is.s1.2
    have h3 := s.is.hd
    have : ∀ L : List TB, (∀ b ∈ L, b.M.length ≤ 64) → (L.flatMap fun b => b.M.map nmOf).length ≤ 64 * L.length := by
      intro L
      induction L with
      | nil => intro _; simp
      | cons b L ih =>
        intro hL
        rw [List.flatMap_cons, List.length_append, List.length_map, List.length_cons]
        have h1 := ih fun x hx => hL x (.tail _ hx)
        have h2 := hL b (.head _)
        omega
    have := this Ts fun b hb => by have := s.len b hb; omega
    omega
  have hbnd := held_bound hKs
  have htk : ∀ i, ((K.take i).flatMap heldE).length ≤ 131072 := by
    intro i
    have h1 := held_bound (K := K.take i) fun k hk' => hKs k (List.mem_of_mem_take hk')
    have h2 : (K.take i).length ≤ K.length := by rw [List.length_take]; omega
    omega
  simp (disch := first | omega | (simp only [Wx]; done) | (simp only [Wy]; done) | (simp only [Wv]; omega) | with_unfolding_all rfl) only [Wz, ptrTo, sliceTo, hlen0]
  refine ⟨fun n l h1 => ∃ i : Nat, slot l 28 = .int .i64 (i : Int) ∧ n = K.length - i ∧ i ≤ K.length ∧ OwnL h0 h1 (slot l 24) ((K.take i).flatMap heldE) ∧ Le h0 h1,
    ⟨_, 0, rfl, rfl, by omega, .inl ⟨by simp, .inl rfl⟩, Le.refl _⟩, ?_⟩
  rintro n l h1 ⟨i, s1, rfl, hi, ho, le1⟩
  have n1 := le1.nx
  have l1 := le1.lo
  by_cases hlt : i < K.length
  · obtain ⟨e, he⟩ : ∃ e, K[i]? = some e := ⟨_, List.getElem?_eq_getElem hlt⟩
    have heK := List.mem_of_getElem? he
    have qv := (t0.each e heK).2
    obtain ⟨b0, o0, hb0, hx0, hr0⟩ := ldHs t0.sl i he (slV_sl qv.1)
    have R1 := hr0 h1 le1
    have qv1 := qv.le le1
    obtain ⟨qx, qc, eq, _⟩ := (show Sl enc5 h1 e.q e.Q from qv1.1)
    have hsm := hKs e heK
    rw [eq] at R1
    simp (disch := first | omega | (simp only [Wx]; done) | (simp only [Wy]; done) | (simp only [Wv]; omega) | with_unfolding_all rfl) only [Wz, ptrTo, sliceTo, s1, lt_t (show (i : Int) < (K.length : Int) by omega), rs_16_3, hx0, R1]
    rw [← eq] at R1
    obtain ⟨h2, e2⟩ : ∃ h2 : Heap, h2 = ⟨h1.nx + 1, h1.bl.upd h1.nx (cellsO [.int .i64 e.t, .int .i64 e.r, .slice qx e.Q.length qc, .int .i64 e.w] 51 false), h1.lo⟩ := ⟨_, rfl⟩
    have le2 : Le h1 h2 := by rw [e2]; exact (Le.refl h1).new _
    have g2 : h2.bl.get h1.nx = some (cellsO [.int .i64 e.t, .int .i64 e.r, .slice qx e.Q.length qc, .int .i64 e.w] 51 false) := by rw [e2]; exact T.get_upd_same _ _ _
    have nx2 : h2.nx = h1.nx + 1 := by rw [e2]
    try rw [← e2]
    clear e2
    have n2 := le2.nx
    have l2 := le2.lo
    have qv2 := qv1.le le2
    refine ⟨fun m l3 h3 => ∃ j : Nat, slot l3 19 = .int .i64 (j : Int) ∧ m = e.Q.length - j ∧ j ≤ e.Q.length ∧ OwnL h0 h3 (slot l3 17) ((K.take i).flatMap heldE ++ heldQ e.t e.r (e.Q.take j)) ∧ Le h0 h3 ∧ h1.nx < h3.nx ∧ h3.bl.get h1.nx = some (cellsO [.int .i64 e.t, .int .i64 e.r, .slice qx e.Q.length qc, .int .i64 e.w] 51 false) ∧ QV h3 e.q e.Q,
      ⟨_, 0, rfl, rfl, by omega, ?_, le1.trans le2, by omega, g2, qv2⟩, ?_⟩
    · rw [List.take_zero]
      have : heldQ e.t e.r [] = [] := rfl
      rw [this, List.append_nil]
      exact ho.le le2
    rintro m l3 h3 ⟨j, s3, rfl, hj, ho3, le3, n3, g3, q3⟩
    have n3' := le3.nx
    have l3' := le3.lo
    by_cases hjl : j < e.Q.length
    · obtain ⟨p, hp⟩ : ∃ p, e.Q[j]? = some p := ⟨_, List.getElem?_eq_getElem hjl⟩
      obtain ⟨b4, o4, _, hx4, hp4, _⟩ := ld5 q3.1 j hp
      rw [eq] at hx4
      have hmono := heldQ_len (t := e.t) (r := e.r) (e.Q.take j)
      have htki := htk i
      have htl : (e.Q.take j).length ≤ e.Q.length := by rw [List.length_take]; omega
      simp (disch := first | omega | (simp only [Wx]; done) | (simp only [Wy]; done) | (simp only [Wv]; omega) | with_unfolding_all rfl) only [Wz, ptrTo, sliceTo, s3, lt_t (show (j : Int) < (e.Q.length : Int) by omega), rs_16_2]
      refine ⟨fun l' h' => ∃ L', L' = (K.take i).flatMap heldE ++ heldQ e.t e.r (e.Q.take (j + 1)) ∧ OwnL h0 h' (slot l' 16) L' ∧ Le h0 h' ∧ h1.nx < h'.nx ∧ h'.bl.get h1.nx = some (cellsO [.int .i64 e.t, .int .i64 e.r, .slice qx e.Q.length qc, .int .i64 e.w] 51 false) ∧ QV h' e.q e.Q, ?_, ?_⟩
      rotate_left
      · rintro l' h' ⟨L', rfl, hL, hle, hn, hg, hq⟩
        exact ⟨_, by omega, j + 1, rfl, rfl, by omega, hL, hle, hn, hg, hq⟩
      simp (disch := first | omega | (simp only [Wx]; done) | (simp only [Wy]; done) | (simp only [Wv]; omega) | with_unfolding_all rfl) only [Wz, ptrTo, sliceTo, rs_16_1, s3, hx4, hp4, enc5]
      obtain ⟨h5, e5⟩ : ∃ h5 : Heap, h5 = ⟨h3.nx + 1, h3.bl.upd h3.nx (blkR p), h3.lo⟩ := ⟨_, rfl⟩
      have le5 : Le h3 h5 := by rw [e5]; exact (Le.refl h3).new _
      have g5 : h5.bl.get h3.nx = some (blkR p) := by rw [e5]; exact T.get_upd_same _ _ _
      have nx5 : h5.nx = h3.nx + 1 := by rw [e5]
      try rw [← e5]
      clear e5
      have l5 := le5.lo
      have g35 := (le5.get _ n3).trans g3
      have hstep := heldQ_take (t := e.t) (r := e.r) hp
      by_cases hm : p.m = 0
      · simp (disch := first | omega | (simp only [Wx]; done) | (simp only [Wy]; done) | (simp only [Wv]; omega) | with_unfolding_all rfl) only [Wz, ptrTo, sliceTo, dec_t hm]
        refine ⟨_, rfl, ?_, le3.trans le5, by omega, ?_, q3.le le5⟩
        · rw [hstep, if_neg (by omega), List.append_nil]
          exact ho3.le le5
        · first | exact g35 | exact g3
      · simp (disch := first | omega | (simp only [Wx]; done) | (simp only [Wy]; done) | (simp only [Wv]; omega) | with_unfolding_all rfl) only [Wz, ptrTo, sliceTo, dec_f hm, rs_16_0, g5, g35]
        obtain ⟨h6, e6⟩ : ∃ h6 : Heap, h6 = ⟨h5.nx + 1, h5.bl.upd h5.nx (cellsO [.int .i64 p.x, .int .i64 e.t, .int .i64 e.r, .int .i64 p.m] 57 false), h5.lo⟩ := ⟨_, rfl⟩
        have le6 : Le h5 h6 := by rw [e6]; exact (Le.refl h5).new _
        have g6 : h6.bl.get h5.nx = some (cellsO ([(⟨p.x, e.t, e.r, p.m⟩ : L4)].flatMap encL) 57 false) := by rw [e6]; exact T.get_upd_same _ _ _
        have nx6 : h6.nx = h5.nx + 1 := by rw [e6]
        have l6 : h6.lo = h5.lo := by rw [e6]
        try rw [← e6]
        clear e6
        have le36 := le5.trans le6
        have g36 := (le6.get _ (by omega)).trans g35
        refine append_in (enc := encL) (a := h0) (L := (K.take i).flatMap heldE ++ heldQ e.t e.r (e.Q.take j)) (M := [(⟨p.x, e.t, e.r, p.m⟩ : L4)]) encL_len encL_one (by decide) (by decide) (ho3.le le36) (Sl.new (by omega) g6 _) (le3.trans le36) (by rw [List.length_append]; simp only [List.length_cons, List.length_nil]; omega) (by omega) _ ?_
        intro v7 h7 ho7 le7 _ n7 l7 same7
        refine ⟨_, rfl, ?_, le7, by omega, (same7 _ (by omega) (by rw [g36]; exact cells_op)).trans g36, (q3.le le36).frame n7 fun d vs op hc hg => same7 d hc (by rw [hg]; exact cells_ty (by decide))⟩
        rw [hstep, if_pos hm, ← List.append_assoc]
        exact ho7
    · have hjQ : j = e.Q.length := by omega
      subst hjQ
      simp (disch := first | omega | (simp only [Wx]; done) | (simp only [Wy]; done) | (simp only [Wv]; omega) | with_unfolding_all rfl) only [Wz, ptrTo, sliceTo, s3, lt_f (show (e.Q.length : Int) ≤ (e.Q.length : Int) by omega), rs_16_2, s1]
      refine ⟨_, by omega, i + 1, rfl, rfl, by omega, ?_, le3⟩
      rw [heldE_take he]
      rw [List.take_length] at ho3
      exact ho3
  · have hil : i = K.length := by omega
    subst hil
    rw [List.take_length] at ho
    simp (disch := first | omega | (simp only [Wx]; done) | (simp only [Wy]; done) | (simp only [Wv]; omega) | with_unfolding_all rfl) only [Wz, ptrTo, sliceTo, s1, lt_f (show (K.length : Int) ≤ (K.length : Int) by omega)]
    refine sortL_w h0 h1 _ _ _ ho le1 (by omega) ?_
    intro D h' hD hpw ho' le'
    exact hk _ h' D K ⟨t0.perm, t0.srt, fun k hk' => (t0.each k hk').1, hD, hpw, ho'.sl, TyS.own ho'⟩ (le0.trans le')
end
end Go.Proofs

namespace Go.Proofs
open Go.Vai Go.Clashes
theorem ofNil_w (id : Int) (h : Heap) (κ : Value → Heap → Prop) (hk : κ (.pointer none) h) : CallW Tryz.prog 113 [.pointer none, .int .i64 id] h κ := by
  refine callW_of mixed ?_
  rw [rs_113]
  simp (disch := first | omega | (simp only [Wx]; done) | (simp only [Wy]; done) | (simp only [Wv]; omega) | with_unfolding_all rfl) only [Wz, ptrTo, sliceTo, bin_eqB0]
  exact hk
theorem getNil_w (id : Int) (h : Heap) (κ : Value → Heap → Prop) (hlo : h.lo ≤ h.nx) (hk : ∀ h', Le h h' → κ (.tuple ⟨[nmV 0 0, aggR ⟨0, 0, 0, 0, 0⟩, .bool false]⟩) h') : CallW Tryz.prog 73 [.pointer none, .int .i64 id] h κ := by
  refine callW_of mixed ?_
  rw [rs_73]
  simp (disch := first | omega | (simp only [Wx]; done) | (simp only [Wy]; done) | (simp only [Wv]; omega) | with_unfolding_all rfl) only [Wz, ptrTo, sliceTo]
  obtain ⟨hA, e_hA⟩ : ∃ hA : Heap, hA = ⟨h.nx + 1 + 1, ((h.bl.upd (h.nx) (cellsO [.int .i64 0, .int .i64 0] 24 false)).upd (h.nx + 1) (blkR ⟨0, 0, 0, 0, 0⟩)), h.lo⟩ := ⟨_, rfl⟩
  have le_hA : Le h hA := by subst e_hA; exact (((Le.refl h).new _).new _)
  have g1 : hA.bl.get (h.nx) = some (cellsO [.int .i64 0, .int .i64 0] 24 false) := by subst e_hA; exact (T.get_updne _ _ (by omega)).trans (T.get_upd_same _ _ _)
  have g3 : hA.bl.get (h.nx + 1) = some (blkR ⟨0, 0, 0, 0, 0⟩) := by subst e_hA; exact T.get_upd_same _ _ _
  have n_hA : hA.nx = h.nx + 1 + 1 := by subst e_hA; rfl
  have l_hA : hA.lo = h.lo := by subst e_hA; rfl
  rw [← e_hA]
  clear e_hA
  refine ofNil_w id hA _ ?_
  simp (disch := first | omega | (simp only [Wx]; done) | (simp only [Wy]; done) | (simp only [Wv]; omega) | with_unfolding_all rfl) only [Wz, ptrTo, sliceTo, bin_eqH0, g1, g3, enc5]
  exact hk _ ((le_hA.set (by omega) _).set (by omega) _)
section
variable {h : Heap} {tb bw bp bl : Nat} {c : Caps} {vb : Value} {heads N : Nat} {Ts : List TB} {W : List IE} {wc : Nat} {F : List Int} {B : List Bool}
theorem tGet_w (s : TSt h tb bw bp bl c vb heads N Ts W wc F B) (hlo : h.lo ≤ h.nx) (id : Int) (κ : Value → Heap → Prop)
    (hk0 : ∀ h', (∀ b ∈ Ts, ∀ e ∈ b.M, findQ e.Q id = none) → Le h h' → κ (.tuple ⟨[nmV 0 0, aggR ⟨0, 0, 0, 0, 0⟩, .bool false]⟩) h')
    (hk1 : ∀ h' b e p, b ∈ Ts → e ∈ b.M → findQ e.Q id = some p → Le h h' → κ (.tuple ⟨[nmV e.t e.r, aggR p, .bool true]⟩) h') :
    CallW Tryz.prog 27 [.pointer (some ⟨tb, 0, none⟩), .int .i64 id] h κ := by
  refine callW_of mixed ?_
  rw [rs_27]
  simp (disch := first | omega | (simp only [Wx]; done) | (simp only [Wy]; done) | (simp only [Wv]; omega) | with_unfolding_all rfl) only [Wz, ptrTo, sliceTo]
  obtain ⟨hA, e_hA⟩ : ∃ hA : Heap, hA = ⟨h.nx + 1 + 1, ((h.bl.upd (h.nx) (cellsO [.int .i64 0, .int .i64 0] 24 false)).upd (h.nx + 1) (blkR ⟨0, 0, 0, 0, 0⟩)), h.lo⟩ := ⟨_, rfl⟩
  have le_hA : Le h hA := by subst e_hA; exact (((Le.refl h).new _).new _)
  have g1 : hA.bl.get (h.nx) = some (cellsO [.int .i64 0, .int .i64 0] 24 false) := by subst e_hA; exact (T.get_updne _ _ (by omega)).trans (T.get_upd_same _ _ _)
  have g3 : hA.bl.get (h.nx + 1) = some (blkR ⟨0, 0, 0, 0, 0⟩) := by subst e_hA; exact T.get_upd_same _ _ _
  have n_hA : hA.nx = h.nx + 1 + 1 := by subst e_hA; rfl
  have l_hA : hA.lo = h.lo := by subst e_hA; rfl
  rw [← e_hA]
  clear e_hA
  refine tof_w (s.le le_hA) (by omega) id _ ?_ ?_
  · intro hno
    refine getNil_w id hA _ (by omega) ?_
    intro h2 le2
    have n_le2 := le2.nx
    have l_le2 := le2.lo
    have g1 := (le2.get _ (by omega)).trans g1
    have g3 := (le2.get _ (by omega)).trans g3
    simp (disch := first | omega | (simp only [Wx]; done) | (simp only [Wy]; done) | (simp only [Wv]; omega) | with_unfolding_all rfl) only [Wz, ptrTo, sliceTo, nmV, enc5, g1, g3]
    exact hk0 _ hno (((le_hA.trans le2).set (by omega) _).set (by omega) _)
  · intro k b e p hk he hf
    have hb := List.mem_of_getElem? hk
    refine getBk_w ((s.le le_hA).is.bk b hb) (by omega) id _ ?_ ?_
    · intro h2 hno _
      rw [hno e he] at hf; cases hf
    · intro h2 e2 p2 he2 hf2 le2
      have n_le2 := le2.nx
      have l_le2 := le2.lo
      have g1 := (le2.get _ (by omega)).trans g1
      have g3 := (le2.get _ (by omega)).trans g3
      simp (disch := first | omega | (simp only [Wx]; done) | (simp only [Wy]; done) | (simp only [Wv]; omega) | with_unfolding_all rfl) only [Wz, ptrTo, sliceTo, nmV, enc5, g1, g3]
      exact hk1 _ b e2 p2 hb he2 hf2 (((le_hA.trans le2).set (by omega) _).set (by omega) _)
def sumM (Ts : List TB) : Nat := (Ts.map fun b => b.M.length).sum
theorem sumM_take {Ts : List TB} {i : Nat} {b : TB} (h : Ts[i]? = some b) : sumM (Ts.take (i + 1)) = sumM (Ts.take i) + b.M.length := by
  unfold sumM
  rw [List.take_add_one, h]
  simp
theorem sumM_le (Ts : List TB) (hl : ∀ b ∈ Ts, b.M.length ≤ 64) : sumM Ts ≤ 64 * Ts.length := by
  unfold sumM
  induction Ts with
  | nil => simp
  | cons b Ts ih =>
    have h1 := ih fun x hx => hl x (.tail _ hx)
    have h2 := hl b (.head _)
    simp only [List.map_cons, List.sum_cons, List.length_cons]
    omega
theorem tCounts_w (s : TSt h tb bw bp bl c vb heads N Ts W wc F B) (κ : Value → Heap → Prop) (hk : κ (.tuple ⟨[.int .i64 (sumM Ts : Nat), .int .i64 ((B.length : Int) - F.length)]⟩) h) :
    CallW Tryz.prog 25 [.pointer (some ⟨tb, 0, none⟩)] h κ := by
  refine callW_of mixed ?_
  rw [rs_25]
  have gt := s.is.cellt
  have hs1 := s.is.s1
  have hdle := s.is.hd
  have hll := lent_len s.is.pool.ok
  have hsm := s.is.pool.small
  obtain ⟨vx, vc, ev, _⟩ := (show Sl encTB h vb Ts from s.is.sl)
  have hlenb : ∀ (β : Type) (fl : β) (h' : Heap) (κ : Value → Heap → β), lenSli fl vb h' κ = κ (.int .i64 (Ts.length : Int)) h' := fun β fl h' κ => by rw [ev]; exact lenSli_eq _ _ _ _ _
  have hbd : ∀ i, sumM (Ts.take i) ≤ 1024 := by
    intro i
    have := sumM_le (Ts.take i) fun b hb => by have := s.len b (List.mem_of_mem_take hb); omega
    have h2 : (Ts.take i).length ≤ Ts.length := by rw [List.length_take]; omega
    omega
  simp (disch := first | omega | (simp only [Wx]; done) | (simp only [Wy]; done) | (simp only [Wv]; omega) | with_unfolding_all rfl) only [Wz, ptrTo, sliceTo, bin_eqTb, nil_at, gt, hlenb]
  refine ⟨fun n l h1 => ∃ i : Nat, slot l 10 = .int .i64 (i : Int) ∧ slot l 8 = .int .i64 (sumM (Ts.take i) : Nat) ∧ n = Ts.length - i ∧ i ≤ Ts.length ∧ HQ h h1, ⟨_, 0, rfl, rfl, rfl, by omega, rfl⟩, ?_⟩
  rintro n l h1 ⟨i, s1, s2, rfl, hi, hq⟩
  cases (show h = h1 from hq)
  by_cases hlt : i < Ts.length
  · obtain ⟨b, hb⟩ : ∃ b, Ts[i]? = some b := ⟨_, List.getElem?_eq_getElem hlt⟩
    obtain ⟨cc, oo, _, hix, hld⟩ := ldTB s.is.sl i hb
    have hld := hld h (Le.refl _)
    have hbl := s.len b (List.mem_of_getElem? hb)
    have hst := sumM_take hb
    have hbi := hbd i
    simp (disch := first | omega | (simp only [Wx]; done) | (simp only [Wy]; done) | (simp only [Wv]; omega) | with_unfolding_all rfl) only [Wz, ptrTo, sliceTo, rs_25_0, s1, s2, lt_t (show (i : Int) < (Ts.length : Int) by omega), hix, hld]
    refine lenBk_w (s.is.bk b (List.mem_of_getElem? hb)) _ ?_
    simp (disch := first | omega | (simp only [Wx]; done) | (simp only [Wy]; done) | (simp only [Wv]; omega) | with_unfolding_all rfl) only [Wz, ptrTo, sliceTo, s1]
    refine ⟨_, by omega, i + 1, rfl, ?_, rfl, by omega, rfl⟩
    rw [hst]; rfl
  · have hil : i = Ts.length := by omega
    subst hil
    rw [List.take_length] at s2
    simp (disch := first | omega | (simp only [Wx]; done) | (simp only [Wy]; done) | (simp only [Wv]; omega) | with_unfolding_all rfl) only [Wz, ptrTo, sliceTo, rs_25_0, s1, s2, lt_f (show (Ts.length : Int) ≤ (Ts.length : Int) by omega), nil_at, gt]
    refine live_w bp bl F B h _ s.is.pool (by omega) ?_
    exact hk
end
end Go.Proofs
