/-
  PROVED HERE: a part of the proof, by a calculus of weakest conditions over an abstract heap (K44).
-/
import Derived.Test.YtijmemedhkgplaaGreatDoorKF
set_option linter.unusedVariables false
set_option linter.unusedSimpArgs false
set_option maxRecDepth 100000
namespace Go.Proofs
/- rs_21 rs_22 rs_62 rs_63 rs_64 rs_65 rs_66 rs_67 rs_68 -/
open Go.Vai Go.Clashes
def sumQ (K : List HE) : Nat := (K.map fun e => e.Q.length).sum
theorem sumQ_ids (M : List HE) : (idsM M).length = sumQ M := by
  unfold idsM sumQ
  rw [List.length_flatMap]
  congr 1
  exact List.map_congr_left fun e _ => by simp
theorem sumQ_told {h : Heap} {M : List HE} {clock : Nat} (o : MapOk M clock) {v : Value} {K : List HE} (t : Told h M v K) : sumQ K = sumQ M := by
  let f : Int × Int → Nat := fun n => ((M.find? fun e => decide (nmOf e = n)).map fun e => e.Q.length).getD 0
  have hM : ∀ e ∈ M, f (nmOf e) = e.Q.length := by
    intro e he
    show ((M.find? fun x => decide (nmOf x = nmOf e)).map fun e => e.Q.length).getD 0 = _
    cases hf : M.find? fun x => decide (nmOf x = nmOf e) with
    | none =>
      rw [List.find?_eq_none] at hf
      have := hf e he
      simp at this
    | some x =>
      have h1 := List.find?_some hf
      have h2 := List.mem_of_find?_eq_some hf
      have h3 : nmOf x = nmOf e := by simpa using h1
      rw [o.uniq h2 he (congrArg Prod.fst h3) (congrArg Prod.snd h3)]; rfl
  have hK : ∀ k ∈ K, f (nmOf k) = k.Q.length := by
    intro k hk
    obtain ⟨e, he, se⟩ := (t.each k hk).1
    have : nmOf k = nmOf e := Prod.ext se.1 se.2.1
    rw [this, hM e he, se.2.2.2]
  have e1 : K.map (fun e => e.Q.length) = (K.map nmOf).map f := by
    rw [List.map_map]; exact List.map_congr_left fun k hk => (hK k hk).symm
  have e2 : M.map (fun e => e.Q.length) = (M.map nmOf).map f := by
    rw [List.map_map]; exact List.map_congr_left fun k hk => (hM k hk).symm
  unfold sumQ
  rw [e1, e2]
  exact (t.perm.map f).sum_nat
theorem sumQ_take {K : List HE} {k : Nat} {e : HE} (hk : K[k]? = some e) : sumQ (K.take (k + 1)) = sumQ (K.take k) + e.Q.length := by
  unfold sumQ
  rw [List.take_add_one, hk]
  simp
theorem bin_neNt {β : Type} {fl : β} (cn : Bool) (a b c d : Int) (h : Heap) (κ : Value → Heap → β) (e : a = c ∧ b = d) : binB fl Tryz.prog .neq 24 cn false (.agg ⟨[.int .i64 a, .int .i64 b]⟩) (.agg ⟨[.int .i64 c, .int .i64 d]⟩) h κ = κ (.bool false) h := by
  rw [bin_neN, dec_t e]; rfl
theorem ldHs {h : Heap} {v : Value} {K : List HE} (hs : Sl encH h v K) (i : Nat) {e : HE} (hp : K[i]? = some e) (hq : slV e.q = e.q) :
    ∃ b o, b < h.nx ∧ (∀ (β : Type) (fl : β) (h' : Heap) (κ : Value → Heap → β), indexAddrS fl 4 v (.int .i64 (i : Int)) h' κ = κ (.pointer (some ⟨b, o, none⟩)) h') ∧
      ∀ h', Le h h' → ((∀ (β : Type) (fl : β) (κ : List Value → β), ldA fl (h'.bl.get b) o 2 κ = κ [.int .i64 e.t, .int .i64 e.r]) ∧
      (∀ (β : Type) (fl : β) (κ : List Value → β), ldA fl (h'.bl.get b) o 4 κ = κ [.int .i64 e.t, .int .i64 e.r, e.q, .int .i64 e.w]) ∧
      (∀ (β : Type) (fl : β) (κ : Value → β), ldO fl (h'.bl.get b) o κ = κ (.int .i64 e.t)) ∧
      (∀ (β : Type) (fl : β) (κ : Value → β), ldO fl (h'.bl.get b) (o + 1) κ = κ (.int .i64 e.r)) ∧
      (∀ (β : Type) (fl : β) (κ : Value → β), ldO fl (h'.bl.get b) (o + 2) κ = κ e.q) ∧
      (∀ (β : Type) (fl : β) (κ : Value → β), ldO fl (h'.bl.get b) (o + 3) κ = κ (.int .i64 e.w))) := by
  obtain ⟨b, o, h1, h2, h3, hh⟩ := hs.ld encH_len i hp
  refine ⟨b, o, h1, h2, fun h' l => ?_⟩
  rw [l.get b h1]
  refine ⟨fun β fl κ => ?_, fun β fl κ => ?_, fun β fl κ => ?_, fun β fl κ => ?_, fun β fl κ => ?_, fun β fl κ => ?_⟩
  · have := hh.sub 0 2 (by show 0 + 2 ≤ 4; omega)
    rw [Nat.add_zero] at this
    exact ldA_has this 2 κ rfl
  · rw [ldA_has hh 4 κ rfl]; unfold encH; rw [hq]
  · exact ldO_has (fl := fl) hh 0 κ (by show 0 < 4; omega)
  · exact ldO_has (fl := fl) hh 1 κ (by show 1 < 4; omega)
  · rw [ldO_has (fl := fl) hh 2 κ (by show 2 < 4; omega)]; show κ (slV e.q) = _; rw [hq]
  · exact ldO_has (fl := fl) hh 3 κ (by show 3 < 4; omega)
end Go.Proofs
