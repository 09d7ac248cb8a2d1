/-
  PROVED HERE: a part of the proof, by a calculus of weakest conditions over an abstract heap (JW2, JW3, JW5).
-/
import Derived.Test.YtlmkplcfmngigaaProg
import Derived.Shelf.RegionOpenPlain
import Derived.Shelf.Spec.SlicesInsert
import Derived.WalkKit
import Derived.Lib.Walk
import Derived.Lib.AppendZeros
import Derived.Laws.Externs
import Derived.Lib.Overlaps
import Derived.Test.YtlmkplcfmngigaaIV
import Derived.Test.YtlmkplcfmngigaaV2
import Derived.Deep.WholeRow
import Derived.Test.YtlmkplcfmngigaaV1
set_option linter.unusedVariables false
set_option linter.unusedSimpArgs false
namespace Go.Proofs
open Go.Shelf Go.RowKit Go.Lib Go.Vai

set_option maxHeartbeats 4000000 in
set_option maxRecDepth 100000 in
theorem f138_atEnd (base : Option Addr) (n c VB vo m vc : Nat) (w : World) (r : Value) (w' : World) (hm : 0 < m) (hle : n ≤ c)
    (hr : (Builtin.append_ #[50, 50] 50 #[.slice base n c, .slice (some ⟨VB, vo, none⟩) m vc]).run Try.prog w = .ok r w') :
    Calls Try.prog 138 #[.slice base n c, .int .i64 n, .slice (some ⟨VB, vo, none⟩) m vc] w fun e w'' => e = .returned r ∧ w'' = w' := by
  have hz1 : ¬ ((m : Int) = 0) := by omega
  go_enter Try.func138, Try.ntmps138
  go_wp2_with (at_builtin; refine Lib.wpList_append_run _ rfl _ _ 50 50 rfl _ _ rfl rfl _ _ hr ?_)
  all_goals go_ret
  all_goals exact ⟨rfl, rfl⟩

theorem mixed : Try.prog.follows .mixedOrders = true := by kernel_rfl
theorem und50 : Try.prog.underlying 50 = some (.slice 3) := Try.underlying50
theorem sz3 : szOf Try.prog 3 = some 1 := by kernel_rfl

set_option maxHeartbeats 4000000 in
set_option maxRecDepth 100000 in
theorem f138_shift (B n c i VB vo m vc : Nat) (C VC : Array Value) (e2 : TypeId) (new : List Value) (w : World) (hne : B ≠ VB) (hi : i < n) (hm : 0 < m) (hroom : n + m ≤ c) (hsm : n + m ≤ 1000000)
    (hC : w.heap[B]? = some (.cells C 3 (0, 0))) (hV : w.heap[VB]? = some (.cells VC e2 (0, 0))) (hcs : c ≤ C.size)
    (hf : ∀ w1 : World, w1.heap[VB]? = w.heap[VB]? → (Builtin.firstCells 1 m (.slice (some ⟨VB, vo, none⟩) m vc)).run Try.prog w1 = .ok new.toArray w1) (hnl : new.length = m) (h1v : ∀ v ∈ new, v.oneCell' = true) (h1c : ∀ v ∈ C.toList.take (n), v.oneCell' = true) :
    Calls Try.prog 138 #[.slice (some ⟨B, 0, none⟩) n c, .int .i64 i, .slice (some ⟨VB, vo, none⟩) m vc] w fun e w'' => e = .returned (.slice (some ⟨B, 0, none⟩) (n + m) c) ∧
      ∃ d, w'' = { w.setRow B (((C.toList.take (n)).take (i) ++ new ++ (C.toList.take (n)).drop (i)) ++ C.toList.drop ((n + m))).toArray with drawn := d } := by
  have mixed := mixed
  have hz1 : ¬ ((m : Int) = 0) := by omega
  have hz2 : ¬ ((i : Int) = (n : Int)) := by omega
  have hw1 : IntKind.i64.wrap ((i : Int) + (m : Int)) = (i : Int) + (m : Int) := by rw [IntKind.wrap_i64]; omega
  have hw2 : IntKind.i64.wrap ((n : Int) + (m : Int)) = (n : Int) + (m : Int) := by rw [IntKind.wrap_i64]; omega
  have hb1 : (0 : Int) ≤ (i : Int) + (m : Int) := by omega
  have hin : i ≤ n := by omega
  have htn : ((i : Int) + (m : Int)).toNat = i + m := by omega
  have hb2 : ¬ (c = i + m) := by omega
  have hb3 : (i : Int) ≤ (n : Int) + (m : Int) := by omega
  have hb4 : ¬ (c = i) := by omega
  have hB : C.size ≠ 0 := by omega
  have hfzB : ∀ j, w.frozen? ⟨B, j, none⟩ = false := fun j => by simp [World.frozen?, hC]
  have hfzV : ∀ j, w.frozen? ⟨VB, j, none⟩ = false := fun j => by simp [World.frozen?, hV]
  have hov : ∀ lb cb, (callFunc 145 #[.slice (some ⟨VB, vo, none⟩) m vc, .slice (some ⟨B, (i + m), none⟩) lb cb]).run Try.prog w = .ok (.value (.bool false)) w := fun lb cb => by
    rw [run_callFunc_extern Try.func145 (by kernel_rfl) (by kernel_rfl) (by kernel_rfl) (e := Extern.SlicesOverlaps.overlaps #[50, 50] #[1]) (by kernel_rfl),
      Lib.run_overlaps_apart w 50 1 3 und50 1 (fun w => run_size sz3) ⟨VB, vo, none⟩ ⟨B, (i + m), none⟩ m vc lb cb (fun e => hne e.symm) e2 3 VC.size C.size (by simp [World.shape?, hV]) (by simp [World.shape?, hC]) hB (hfzV _) (hfzV _)]
    rfl
  have hnc : (n + m) ≤ C.size := by omega
  have hCd : w.drew.heap[B]? = some (.cells C 3 (0, 0)) := hC
  have hl1 : ((C.toList.drop (i)).take ((n - i))).length = (n - i) := by simp; omega
  have hcp1 : ∀ ty dc sc, (Builtin.copy_ #[50, 50] ty #[.slice (some ⟨B, (i + m), none⟩) (n + m - (i + m)) dc, .slice (some ⟨B, i, none⟩) (n + m - i) sc]).run Try.prog w.drew = .ok (goInt ((n - i : Nat))) (w.drew.setRow B (C.toList.take ((i + m)) ++ (C.toList.drop (i)).take ((n - i)) ++ C.toList.drop ((n + m))).toArray) := fun ty dc sc => by
    have hmin : Nat.min (n + m - i) (n + m - (i + m)) = n - i := by simp only [Nat.min_def]; split <;> omega
    have h := run_copy_row_at (P := Try.prog) (w := w.drew) (ty := ty) (D := B) (o := (i + m)) (dl := n + m - (i + m)) (dc := dc) (n := n + m - i) (c := sc) (a := some ⟨B, i, none⟩) (l' := (C.toList.drop (i)).take ((n - i))) und50 sz3
      (by rw [hmin]; have h0 := run_first_row (P := Try.prog) (k := 1) (n := n + m - i) (m := n - i) (c := sc) (o := i) hCd (by omega); simpa using h0) hCd (by rw [hl1]; omega) (fun v hv => h1c v (by
        rw [List.mem_iff_getElem?] at hv ⊢
        obtain ⟨j, hj⟩ := hv
        rw [List.getElem?_take] at hj
        split at hj
        · rw [List.getElem?_drop] at hj
          exact ⟨i + j, by rw [List.getElem?_take_of_lt (by omega)]; exact hj⟩
        · cases hj))
    rw [hmin, hl1, show (i + m) + (n - i) = (n + m) by omega] at h
    exact h
  obtain ⟨R1, hR1⟩ : ∃ R1 : Array Value, R1 = (C.toList.take ((i + m)) ++ (C.toList.drop (i)).take ((n - i)) ++ C.toList.drop ((n + m))).toArray := ⟨_, rfl⟩
  rw [← hR1] at hcp1
  have hR1s : R1.size = C.size := by rw [hR1]; simp; omega
  obtain ⟨W1, hW1⟩ : ∃ W1, W1 = w.drew.setRow B R1 := ⟨_, rfl⟩
  obtain ⟨R2, hR2⟩ : ∃ R2 : Array Value, R2 = (((C.toList.take (n)).take (i) ++ new ++ (C.toList.take (n)).drop (i)) ++ C.toList.drop ((n + m))).toArray := ⟨_, rfl⟩
  have hW1B : W1.heap[B]? = some (.cells R1 3 (0, 0)) := by rw [hW1]; exact setRow_heap w.drew B C R1 3 (0, 0) hCd
  have hW1V : W1.heap[VB]? = w.heap[VB]? := by rw [hW1]; exact setRow_other w.drew B VB R1 (fun e => hne e.symm)
  have hcp2 : ∀ (W : World), W.heap = W1.heap → ∀ ty dc, (Builtin.copy_ #[50, 50] ty #[.slice (some ⟨B, i, none⟩) (n + m - i) dc, .slice (some ⟨VB, vo, none⟩) m vc]).run Try.prog W = .ok (goInt m) (W.setRow B R2) := fun W hW ty dc => by
    have hmin : Nat.min m (n + m - i) = m := by simp only [Nat.min_def]; split <;> omega
    have h := run_copy_row_at (P := Try.prog) (w := W) (ty := ty) (D := B) (o := i) (dl := n + m - i) (dc := dc) (n := m) (c := vc) (a := some ⟨VB, vo, none⟩) (l' := new) und50 sz3
      (by rw [hmin]; exact hf W (by rw [hW]; exact hW1V)) (by rw [hW]; exact hW1B) (by rw [hnl]; omega) h1v
    rw [hmin] at h
    have hrow : (R1.toList.take (i) ++ new ++ R1.toList.drop (i + new.length)).toArray = R2 := by
      rw [hR2, hR1, hnl]
      have e1 := shift_take C.toList (i) (m) (n) (by omega) (by simp; omega)
      have e2 := shift_drop C.toList (i) (m) (n) (by omega) (by simp; omega)
      rw [List.toList_toArray, e1, e2, List.append_assoc, List.append_assoc, List.append_assoc]
    rw [hrow] at h
    exact h
  rw [← hW1] at hcp1
  rw [← hR2]
  go_enter Try.func138, Try.ntmps138
  go_wp2_with (simp only [hov])
  go_region_law_o (refine step_copy_runI rfl _ _ 50 50 rfl _ _ (by simp [Act.eval, Act.put]) (by simp [Act.eval, Act.put]) (hcp1 _ _ _) ?_)
  go_wp2_with (at_builtin; refine wpList_copy_runI _ rfl _ _ 50 50 rfl _ _ rfl rfl (hcp2 _ rfl _ _) ?_)
  go_ret
  refine ⟨rfl, w.drawn + 1, ?_⟩
  rw [setRow_setRow, hR2]
  simp only [List.append_assoc]
  rfl
end Go.Proofs

namespace Go.Proofs
open Go.Shelf Go.RowKit Go.Lib Go.Vai

theorem grow_list (C Z R new : List Value) (a b N : Nat) (h1 : a ≤ N) (h2 : N ≤ C.length) (hn : new.length = b) (hz : Z.length = N + b - a) :
    (((C.take a ++ Z ++ R).take a ++ new ++ (C.take a ++ Z ++ R).drop (a + b)).take (a + b) ++ (C.drop a).take (N - a) ++ ((C.take a ++ Z ++ R).take a ++ new ++ (C.take a ++ Z ++ R).drop (a + b)).drop (N + b)) =
      ((C.take N).take a ++ new ++ (C.take N).drop a) ++ R := by
  have la : (C.take a).length = a := by simp; omega
  have e1 : (C.take a ++ Z ++ R).take a = C.take a := by rw [List.append_assoc, List.take_append_of_le_length (by omega), List.take_take]; congr 1; omega
  have e2 : (C.take N).take a = C.take a := by rw [List.take_take]; congr 1; omega
  have e3 : (C.take N).drop a = (C.drop a).take (N - a) := by rw [List.drop_take]
  have l2 : (C.take a ++ new).length = a + b := by simp; omega
  have e4 : (C.take a ++ new ++ (C.take a ++ Z ++ R).drop (a + b)).take (a + b) = C.take a ++ new := List.take_left' l2
  have e5 : (C.take a ++ new ++ (C.take a ++ Z ++ R).drop (a + b)).drop (N + b) = R := by
    have hs : N + b = (a + b) + (N - a) := by omega
    rw [hs, ← List.drop_drop, List.drop_left' l2, List.drop_drop]
    exact List.drop_left' (by simp; omega)
  rw [e1, e4, e5, e2, e3]

set_option maxHeartbeats 4000000 in
set_option maxRecDepth 100000 in
/-- the walk of the third road: the append and the two copies as they run -/
theorem f138_grow_walk (B n c i VB vo m vc G N : Nat) (R1 R2 : Array Value) (w W1 : World) (hi : i < n) (hm : 0 < m) (hnc : n ≤ c) (hroom : c < n + m) (hsm : n + m ≤ 1000000) (hG1 : n + m ≤ G)
    (hrz : (Builtin.append_ #[50, 3] 50 #[.slice (some ⟨B, 0, none⟩) i c, .int .i64 ((n : Int) + (m : Int) - (i : Int))]).run Try.prog w = .ok (.slice (some ⟨N, 0, none⟩) (n + m) G) W1)
    (hcpA : ∀ (W : World), W.heap = W1.heap → ∀ ty dc, (Builtin.copy_ #[50, 50] ty #[.slice (some ⟨N, i, none⟩) (n + m - i) dc, .slice (some ⟨VB, vo, none⟩) m vc]).run Try.prog W = .ok (goInt m) (W.setRow N R1))
    (hcpB : ∀ (W : World), W.heap = (W1.setRow N R1).heap → ∀ ty dc sc, (Builtin.copy_ #[50, 50] ty #[.slice (some ⟨N, (i + m), none⟩) (n + m - (i + m)) dc, .slice (some ⟨B, i, none⟩) (n - i) sc]).run Try.prog W = .ok (goInt ((n - i : Nat))) (W.setRow N R2)) :
    Calls Try.prog 138 #[.slice (some ⟨B, 0, none⟩) n c, .int .i64 i, .slice (some ⟨VB, vo, none⟩) m vc] w fun e' w'' =>
      e' = .returned (.slice (some ⟨N, 0, none⟩) (n + m) G) ∧ w'' = (W1.setRow N R1).drew.setRow N R2 := by
  have mixed := mixed
  have hz1 : ¬ ((m : Int) = 0) := by omega
  have hz2 : ¬ ((i : Int) = (n : Int)) := by omega
  have hz3 : (c : Int) < (n : Int) + (m : Int) := by omega
  have hGi : ¬ (G = i) := by omega
  have hGim : ¬ (G = i + m) := by omega
  have hci : ¬ (c = i) := by omega
  have hw1 : IntKind.i64.wrap ((i : Int) + (m : Int)) = (i : Int) + (m : Int) := by rw [IntKind.wrap_i64]; omega
  have hw2 : IntKind.i64.wrap ((n : Int) + (m : Int)) = (n : Int) + (m : Int) := by rw [IntKind.wrap_i64]; omega
  have hw3 : IntKind.i64.wrap ((n : Int) + (m : Int) - (i : Int)) = (n : Int) + (m : Int) - (i : Int) := by rw [IntKind.wrap_i64]; omega
  have hb1 : (0 : Int) ≤ (i : Int) + (m : Int) := by omega
  have hin : i ≤ n := by omega
  have hinc : i ≤ c := by omega
  have htn : ((i : Int) + (m : Int)).toNat = i + m := by omega
  have hb3 : (i : Int) ≤ (n : Int) := by omega
  go_enter Try.func138, Try.ntmps138
  go_wp2_with (first
    | (at_builtin; refine Lib.wpList_append_run _ rfl _ _ 50 3 rfl _ _ rfl rfl _ _ hrz ?_)
    | (at_builtin; refine wpList_copy_runI _ rfl _ _ 50 50 rfl _ _ rfl rfl (hcpA _ rfl _ _) ?_))
  go_region_law_o (refine step_copy_runI rfl _ _ 50 50 rfl (.slice (some ⟨N, (i + m), none⟩) (n + m - (i + m)) (G - (i + m))) (.slice (some ⟨B, i, none⟩) (n - i) (c - i)) (by simp [Act.eval, Act.put]) (by simp [Act.eval, Act.put]) (hcpB (W1.setRow N R1).drew rfl 3 (G - (i + m)) (c - i)) ?_)
  go_wp2
  go_ret
  exact ⟨rfl, rfl⟩

set_option maxHeartbeats 4000000 in
set_option maxRecDepth 100000 in
theorem f138_grow (B n c i VB vo m vc : Nat) (C VC : Array Value) (e2 : TypeId) (new : List Value) (w : World) (hne : B ≠ VB) (hi : i < n) (hm : 0 < m) (hnc : n ≤ c) (hroom : c < n + m) (hsm : n + m ≤ 1000000)
    (hC : w.heap[B]? = some (.cells C 3 (0, 0))) (hV : w.heap[VB]? = some (.cells VC e2 (0, 0))) (hcs : n ≤ C.size)
    (hf : ∀ w1 : World, w1.heap[VB]? = w.heap[VB]? → (Builtin.firstCells 1 m (.slice (some ⟨VB, vo, none⟩) m vc)).run Try.prog w1 = .ok new.toArray w1) (hnl : new.length = m) (h1v : ∀ v ∈ new, v.oneCell' = true) (h1c : ∀ v ∈ C.toList.take (n), v.oneCell' = true)
    {inf : TypeInfo} {z : Value} (hinf : Try.prog.info? 3 = some inf) (hz : inf.zero = some z) (hzc : z.cells.size = 1) (hby : inf.bytes ≤ 10000) (h3 : Try.prog.underlying 3 = some (.int .i64)) :
    Calls Try.prog 138 #[.slice (some ⟨B, 0, none⟩) n c, .int .i64 i, .slice (some ⟨VB, vo, none⟩) m vc] w fun e' w'' => ∃ newCap rest d, n + m ≤ newCap ∧ rest.length = (newCap - (n + m)) ∧
      e' = .returned (.slice (some ⟨w.heap.size, 0, none⟩) (n + m) newCap) ∧
      w'' = { w.alloc (.cells (((C.toList.take (n)).take (i) ++ new ++ (C.toList.take (n)).drop (i)) ++ rest).toArray 3 (0, 0)) with drawn := d } := by
  have mixed := mixed
  have hz1 : ¬ ((m : Int) = 0) := by omega
  have hz2 : ¬ ((i : Int) = (n : Int)) := by omega
  have hz3 : (c : Int) < (n : Int) + (m : Int) := by omega
  have hkk : (n : Int) + (m : Int) - (i : Int) = ((n + m - i : Nat) : Int) := by omega
  have hik : i + (n + m - i) = n + m := by omega
  have hzs : (Builtin.zeroCells z.cells (n + m - i)).size = (n + m - i) := by rw [size_zeroCells, hzc, Nat.mul_one]
  obtain ⟨G, rest, hG1, hrl, hrz⟩ := run_append_fresh (P := Try.prog) (w := w) (e := 3) (size := 1) (n := n + m - i) (sLen := i) (sCap := c) (ty := 50) (ts := #[50, 3]) (base := some ⟨B, 0, none⟩) (x' := .int .i64 ((n + m - i : Nat) : Int))
    (new' := (Builtin.zeroCells z.cells (n + m - i)).toList) (old' := C.toList.take (i)) (t := 50) rfl und50 sz3 hinf hz hby
    (.mk (k' := .i64) (inf := inf) (v := z) rfl h3 (by omega) hinf hz hby (by simp) (by intro h; omega)) (by omega) (by omega)
    (fun w1 hw1 => by
      have := run_first_row (P := Try.prog) (w := w1) (B := B) (o := 0) (k := 1) (m := i) (n := i) (c := c) (C := C) (e := 3) (by rw [hw1]; exact hC) (by omega)
      simpa using this)
  rw [hik, hzc] at hrl
  rw [hik] at hG1 hrz
  rw [← hkk] at hrz
  obtain ⟨Z, hZ⟩ : ∃ Z, Z = (Builtin.zeroCells z.cells (n + m - i)).toList := ⟨_, rfl⟩
  have hZl : Z.length = (n + m - i) := by rw [hZ]; simpa using hzs
  rw [← hZ] at hrz
  obtain ⟨ROW, hROW⟩ : ∃ ROW : Array Value, ROW = (C.toList.take (i) ++ Z ++ rest).toArray := ⟨_, rfl⟩
  rw [← hROW] at hrz
  have hRs : (n + m) ≤ ROW.size := by rw [hROW]; simp [hZl]; omega
  obtain ⟨W1, hW1⟩ : ∃ W1, W1 = w.drew.alloc (.cells ROW 3 (0, 0)) := ⟨_, rfl⟩
  rw [← hW1] at hrz
  have hBl : B < w.heap.size := (Array.getElem?_eq_some_iff.mp hC).1
  have hVl : VB < w.heap.size := (Array.getElem?_eq_some_iff.mp hV).1
  have hW1N : W1.heap[w.heap.size]? = some (.cells ROW 3 (0, 0)) := by rw [hW1]; show (w.heap.push _)[w.heap.size]? = _; simp
  have hW1o : ∀ k, k < w.heap.size → W1.heap[k]? = w.heap[k]? := fun k hk => by rw [hW1]; exact alloc_get_lt (w := w.drew) hk
  obtain ⟨R1, hR1⟩ : ∃ R1 : Array Value, R1 = (ROW.toList.take (i) ++ new ++ ROW.toList.drop (i + m)).toArray := ⟨_, rfl⟩
  have hR1s : R1.size = ROW.size := by rw [hR1]; simp [hnl]; omega
  have hl1 : ((C.toList.drop (i)).take ((n - i))).length = (n - i) := by simp; omega
  obtain ⟨R2, hR2⟩ : ∃ R2 : Array Value, R2 = (R1.toList.take ((i + m)) ++ (C.toList.drop (i)).take ((n - i)) ++ R1.toList.drop ((n + m))).toArray := ⟨_, rfl⟩
  have hcpA : ∀ (W : World), W.heap = W1.heap → ∀ ty dc, (Builtin.copy_ #[50, 50] ty #[.slice (some ⟨w.heap.size, i, none⟩) (n + m - i) dc, .slice (some ⟨VB, vo, none⟩) m vc]).run Try.prog W = .ok (goInt m) (W.setRow w.heap.size R1) := fun W hW ty dc => by
    have hmin : Nat.min m (n + m - i) = m := by simp only [Nat.min_def]; split <;> omega
    have h := run_copy_row_at (P := Try.prog) (w := W) (ty := ty) (D := w.heap.size) (o := i) (dl := n + m - i) (dc := dc) (n := m) (c := vc) (a := some ⟨VB, vo, none⟩) (l' := new) und50 sz3
      (by rw [hmin]; exact hf W (by rw [hW]; exact hW1o VB hVl)) (by rw [hW]; exact hW1N) (by rw [hnl]; omega) h1v
    rw [hmin, hnl, ← hR1] at h
    exact h
  have hcpB : ∀ (W : World), W.heap = (W1.setRow w.heap.size R1).heap → ∀ ty dc sc, (Builtin.copy_ #[50, 50] ty #[.slice (some ⟨w.heap.size, (i + m), none⟩) (n + m - (i + m)) dc, .slice (some ⟨B, i, none⟩) (n - i) sc]).run Try.prog W = .ok (goInt ((n - i : Nat))) (W.setRow w.heap.size R2) := fun W hW ty dc sc => by
    have hmin : Nat.min (n - i) (n + m - (i + m)) = n - i := by simp only [Nat.min_def]; split <;> omega
    have hWB : W.heap[B]? = some (.cells C 3 (0, 0)) := by rw [hW, setRow_other W1 w.heap.size B R1 (by omega), hW1o B hBl]; exact hC
    have hWN : W.heap[w.heap.size]? = some (.cells R1 3 (0, 0)) := by rw [hW]; exact setRow_heap W1 w.heap.size ROW R1 3 (0, 0) hW1N
    have h := run_copy_row_at (P := Try.prog) (w := W) (ty := ty) (D := w.heap.size) (o := (i + m)) (dl := n + m - (i + m)) (dc := dc) (n := n - i) (c := sc) (a := some ⟨B, i, none⟩) (l' := (C.toList.drop (i)).take ((n - i))) und50 sz3
      (by rw [hmin]; have h0 := run_first_row (P := Try.prog) (k := 1) (n := n - i) (m := n - i) (c := sc) (o := i) hWB (by omega); simpa using h0) hWN (by rw [hl1]; omega) (fun v hv => h1c v (by
        rw [List.mem_iff_getElem?] at hv ⊢
        obtain ⟨j, hj⟩ := hv
        rw [List.getElem?_take] at hj
        split at hj
        · rw [List.getElem?_drop] at hj
          exact ⟨i + j, by rw [List.getElem?_take_of_lt (by omega)]; exact hj⟩
        · cases hj))
    rw [hmin, hl1, show (i + m) + (n - i) = (n + m) by omega, ← hR2] at h
    exact h
  refine (f138_grow_walk B n c i VB vo m vc G w.heap.size R1 R2 w W1 hi hm hnc hroom hsm hG1 hrz hcpA hcpB).mono ?_
  rintro e' w'' ⟨rfl, rfl⟩
  refine ⟨G, rest, w.drawn + 2, hG1, by simpa using hrl, rfl, ?_⟩
  have hfin : R2 = (((C.toList.take (n)).take (i) ++ new ++ (C.toList.take (n)).drop (i)) ++ rest).toArray := by
    rw [hR2, hR1, hROW]
    congr 1
    have := grow_list C.toList Z rest new (i) (m) (n) (by omega) (by simpa using hcs) hnl (by rw [hZl])
    exact this
  rw [hW1, hfin]
  have ed : ∀ (X : World) (g : Nat) (R : Array Value), X.drew.setRow g R = (X.setRow g R).drew := fun _ _ _ => rfl
  have ea : ∀ (A R : Array Value), (w.drew.alloc (.cells A 3 (0, 0))).setRow w.heap.size R = w.drew.alloc (.cells R 3 (0, 0)) := fun A R => World.setRow_alloc_new w.drew A R 3
  rw [ed, setRow_setRow, ea]
  rfl
end Go.Proofs

namespace Go.Proofs
open Go.Vai

theorem enters138 (args : Array Value) (w : World) : (callFunc 138 args).run Try.prog w = .ok (.enter 138 args) w := by
  have hb : Try.f138.body.isNone = false := by kernel_rfl
  have hn : (Try.f138.name == "runtime.NumGoroutine") = false := by kernel_rfl
  have hn' : Try.f138.name ≠ "runtime.NumGoroutine" := by simpa using hn
  simp [callFunc, Try.func138, hn', hb]
  cases h : Try.f138.body with
  | none => rw [h] at hb; cases hb
  | some c => simp

theorem insert138 {inf : TypeInfo} {z : Value} (hinf : Try.prog.info? 3 = some inf) (hz : inf.zero = some z) (hzc : z.cells.size = 1) (hby : inf.bytes ≤ 10000) (h3 : Try.prog.underlying 3 = some (.int .i64)) : InsertFn Try.prog 138 50 3 1 where
  enters := enters138
  atEnd := fun base n c VB vo m vc w r w' hm hle hr => f138_atEnd base n c VB vo m vc w r w' hm hle hr
  shift := fun B n c i VB vo m vc C VC e2 new w hne hi hm hroom hsm hC hV hcs hf hnl h1v h1c => by
    simp only [Nat.mul_one] at hcs hnl h1c ⊢
    exact f138_shift B n c i VB vo m vc C VC e2 new w hne hi hm hroom hsm hC hV hcs hf hnl h1v h1c
  grow := fun B n c i VB vo m vc C VC e2 new w hne hi hm hnc hroom hsm hC hV hcs hf hnl h1v h1c => by
    simp only [Nat.mul_one] at hcs hnl h1c ⊢
    exact f138_grow B n c i VB vo m vc C VC e2 new w hne hi hm hnc hroom hsm hC hV hcs hf hnl h1v h1c hinf hz hzc hby h3
end Go.Proofs
