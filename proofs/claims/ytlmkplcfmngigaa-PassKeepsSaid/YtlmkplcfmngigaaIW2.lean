/-
  PROVED HERE: a part of a calculus of weakest conditions over an abstract heap.
  PROVED HERE: a part of slices.Insert as a step of the interpreter.
-/
import Derived.Test.YtlmkplcfmngigaaProg
import Derived.Shelf.RegionOpenPlain
import Derived.Shelf.Spec.SlicesInsert
import Derived.WalkKit
import Derived.Lib.Walk
import Derived.Lib.AppendZeros
import Derived.Laws.Externs
import Derived.Lib.Overlaps
import Derived.Test.YtlmkplcfmngigaaIX
set_option linter.unusedVariables false
set_option linter.unusedVariables false
set_option linter.unusedSimpArgs false
namespace Go.Proofs
open Go.Shelf Go.RowKit Go.Lib Go.Vai

set_option maxHeartbeats 4000000 in
set_option maxRecDepth 100000 in
theorem f85_atEnd (base : Option Addr) (n c VB vo m vc : Nat) (w : World) (r : Value) (w' : World) (hm : 0 < m) (hle : n ≤ c)
    (hr : (Builtin.append_ #[22, 22] 22 #[.slice base n c, .slice (some ⟨VB, vo, none⟩) m vc]).run Try.prog w = .ok r w') :
    Calls Try.prog 85 #[.slice base n c, .int .i64 n, .slice (some ⟨VB, vo, none⟩) m vc] w fun e w'' => e = .returned r ∧ w'' = w' := by
  have hz1 : ¬ ((m : Int) = 0) := by omega
  go_enter Try.func85, Try.ntmps85
  go_wp2_with (at_builtin; refine Lib.wpList_append_run _ rfl _ _ 22 22 rfl _ _ rfl rfl _ _ hr ?_)
  all_goals go_ret
  all_goals exact ⟨rfl, rfl⟩

theorem mixed : Try.prog.follows .mixedOrders = true := by kernel_rfl
theorem und22 : Try.prog.underlying 22 = some (.slice 30) := Try.underlying22
theorem sz30 : szOf Try.prog 30 = some 4 := by kernel_rfl

set_option maxHeartbeats 4000000 in
set_option maxRecDepth 100000 in
theorem f85_shift (B n c i VB vo m vc : Nat) (C VC : Array Value) (e2 : TypeId) (new : List Value) (w : World) (hne : B ≠ VB) (hi : i < n) (hm : 0 < m) (hroom : n + m ≤ c) (hsm : n + m ≤ 1000000)
    (hC : w.heap[B]? = some (.cells C 30 (0, 0))) (hV : w.heap[VB]? = some (.cells VC e2 (0, 0))) (hcs : c * 4 ≤ C.size)
    (hf : ∀ w1 : World, w1.heap[VB]? = w.heap[VB]? → (Builtin.firstCells 4 m (.slice (some ⟨VB, vo, none⟩) m vc)).run Try.prog w1 = .ok new.toArray w1) (hnl : new.length = m * 4) (h1v : ∀ v ∈ new, v.oneCell' = true) (h1c : ∀ v ∈ C.toList.take (n * 4), v.oneCell' = true) :
    Calls Try.prog 85 #[.slice (some ⟨B, 0, none⟩) n c, .int .i64 i, .slice (some ⟨VB, vo, none⟩) m vc] w fun e w'' => e = .returned (.slice (some ⟨B, 0, none⟩) (n + m) c) ∧
      ∃ d, w'' = { w.setRow B (((C.toList.take (n * 4)).take (i * 4) ++ new ++ (C.toList.take (n * 4)).drop (i * 4)) ++ C.toList.drop ((n + m) * 4)).toArray with drawn := d } := by
  have mixed := mixed
  have hz1 : ¬ ((m : Int) = 0) := by omega
  have hz2 : ¬ ((i : Int) = (n : Int)) := by omega
  have hw1 : IntKind.i64.wrap ((i : Int) + (m : Int)) = (i : Int) + (m : Int) := by rw [IntKind.wrap_i64]; omega
  have hw2 : IntKind.i64.wrap ((n : Int) + (m : Int)) = (n : Int) + (m : Int) := by rw [IntKind.wrap_i64]; omega
  have hb1 : (0 : Int) ≤ (i : Int) + (m : Int) := by omega
  have hin : i ≤ n := by omega
  have htn : ((i : Int) + (m : Int)).toNat = i + m := by omega
  have hb2 : ¬ (c = i + m) := by omega
  have hb3 : (i : Int) ≤ (n : Int) + (m : Int) := by omega
  have hb4 : ¬ (c = i) := by omega
  have hB : C.size ≠ 0 := by omega
  have hfzB : ∀ j, w.frozen? ⟨B, j, none⟩ = false := fun j => by simp [World.frozen?, hC]
  have hfzV : ∀ j, w.frozen? ⟨VB, j, none⟩ = false := fun j => by simp [World.frozen?, hV]
  have hov : ∀ lb cb, (callFunc 131 #[.slice (some ⟨VB, vo, none⟩) m vc, .slice (some ⟨B, (i + m) * 4, none⟩) lb cb]).run Try.prog w = .ok (.value (.bool false)) w := fun lb cb => by
    rw [run_callFunc_extern Try.func131 (by kernel_rfl) (by kernel_rfl) (by kernel_rfl) (e := Extern.SlicesOverlaps.overlaps #[22, 22] #[4]) (by kernel_rfl),
      Lib.run_overlaps_apart w 22 4 30 und22 4 (fun w => run_size sz30) ⟨VB, vo, none⟩ ⟨B, (i + m) * 4, none⟩ m vc lb cb (fun e => hne e.symm) e2 30 VC.size C.size (by simp [World.shape?, hV]) (by simp [World.shape?, hC]) hB (hfzV _) (hfzV _)]
    rfl
  have hnc : (n + m) * 4 ≤ C.size := by omega
  have hCd : w.drew.heap[B]? = some (.cells C 30 (0, 0)) := hC
  have hl1 : ((C.toList.drop (i * 4)).take ((n - i) * 4)).length = (n - i) * 4 := by simp; omega
  have hcp1 : ∀ ty dc sc, (Builtin.copy_ #[22, 22] ty #[.slice (some ⟨B, (i + m) * 4, none⟩) (n + m - (i + m)) dc, .slice (some ⟨B, i * 4, none⟩) (n + m - i) sc]).run Try.prog w.drew = .ok (goInt ((n - i : Nat))) (w.drew.setRow B (C.toList.take ((i + m) * 4) ++ (C.toList.drop (i * 4)).take ((n - i) * 4) ++ C.toList.drop ((n + m) * 4)).toArray) := fun ty dc sc => by
    have hmin : Nat.min (n + m - i) (n + m - (i + m)) = n - i := by simp only [Nat.min_def]; split <;> omega
    have h := run_copy_row_at (P := Try.prog) (w := w.drew) (ty := ty) (D := B) (o := (i + m) * 4) (dl := n + m - (i + m)) (dc := dc) (n := n + m - i) (c := sc) (a := some ⟨B, i * 4, none⟩) (l' := (C.toList.drop (i * 4)).take ((n - i) * 4)) und22 sz30
      (by rw [hmin]; exact run_first_row hCd (by omega)) hCd (by rw [hl1]; omega) (fun v hv => h1c v (by
        rw [List.mem_iff_getElem?] at hv ⊢
        obtain ⟨j, hj⟩ := hv
        rw [List.getElem?_take] at hj
        split at hj
        · rw [List.getElem?_drop] at hj
          exact ⟨i * 4 + j, by rw [List.getElem?_take_of_lt (by omega)]; exact hj⟩
        · cases hj))
    rw [hmin, hl1, show (i + m) * 4 + (n - i) * 4 = (n + m) * 4 by omega] at h
    exact h
  obtain ⟨R1, hR1⟩ : ∃ R1 : Array Value, R1 = (C.toList.take ((i + m) * 4) ++ (C.toList.drop (i * 4)).take ((n - i) * 4) ++ C.toList.drop ((n + m) * 4)).toArray := ⟨_, rfl⟩
  rw [← hR1] at hcp1
  have hR1s : R1.size = C.size := by rw [hR1]; simp; omega
  obtain ⟨W1, hW1⟩ : ∃ W1, W1 = w.drew.setRow B R1 := ⟨_, rfl⟩
  obtain ⟨R2, hR2⟩ : ∃ R2 : Array Value, R2 = (((C.toList.take (n * 4)).take (i * 4) ++ new ++ (C.toList.take (n * 4)).drop (i * 4)) ++ C.toList.drop ((n + m) * 4)).toArray := ⟨_, rfl⟩
  have hW1B : W1.heap[B]? = some (.cells R1 30 (0, 0)) := by rw [hW1]; exact setRow_heap w.drew B C R1 30 (0, 0) hCd
  have hW1V : W1.heap[VB]? = w.heap[VB]? := by rw [hW1]; exact setRow_other w.drew B VB R1 (fun e => hne e.symm)
  have hcp2 : ∀ (W : World), W.heap = W1.heap → ∀ ty dc, (Builtin.copy_ #[22, 22] ty #[.slice (some ⟨B, i * 4, none⟩) (n + m - i) dc, .slice (some ⟨VB, vo, none⟩) m vc]).run Try.prog W = .ok (goInt m) (W.setRow B R2) := fun W hW ty dc => by
    have hmin : Nat.min m (n + m - i) = m := by simp only [Nat.min_def]; split <;> omega
    have h := run_copy_row_at (P := Try.prog) (w := W) (ty := ty) (D := B) (o := i * 4) (dl := n + m - i) (dc := dc) (n := m) (c := vc) (a := some ⟨VB, vo, none⟩) (l' := new) und22 sz30
      (by rw [hmin]; exact hf W (by rw [hW]; exact hW1V)) (by rw [hW]; exact hW1B) (by rw [hnl]; omega) h1v
    rw [hmin] at h
    have hrow : (R1.toList.take (i * 4) ++ new ++ R1.toList.drop (i * 4 + new.length)).toArray = R2 := by
      rw [hR2, hR1, hnl]
      have e1 := shift_take C.toList (i * 4) (m * 4) (n * 4) (by omega) (by simp; omega)
      have e2 := shift_drop C.toList (i * 4) (m * 4) (n * 4) (by omega) (by simp; omega)
      rw [← Nat.add_mul, ← Nat.add_mul, ← Nat.sub_mul] at e1 e2
      rw [List.toList_toArray, e1, ← Nat.add_mul, e2, List.append_assoc, List.append_assoc, List.append_assoc]
    rw [hrow] at h
    exact h
  rw [← hW1] at hcp1
  rw [← hR2]
  go_enter Try.func85, Try.ntmps85
  go_wp2_with (simp only [hov])
  go_region_law_o (refine step_copy_runI rfl _ _ 22 22 rfl _ _ (by simp [Act.eval, Act.put]) (by simp [Act.eval, Act.put]) (hcp1 _ _ _) ?_)
  go_wp2_with (at_builtin; refine wpList_copy_runI _ rfl _ _ 22 22 rfl _ _ rfl rfl (hcp2 _ rfl _ _) ?_)
  go_ret
  refine ⟨rfl, w.drawn + 1, ?_⟩
  rw [setRow_setRow, hR2]
  simp only [List.append_assoc]
  rfl
end Go.Proofs
