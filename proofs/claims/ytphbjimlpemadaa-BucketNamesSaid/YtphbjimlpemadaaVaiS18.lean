/-
  PROVED HERE: a part of an interpreter for the model's code, and that it is sound.
  The interpreter is sound, the end: a closed call that answers true does so in the model.
-/
import Derived.Test.YtphbjimlpemadaaVaiS17
import Derived.RowKit3
import Derived.ChangeSame
set_option linter.unusedVariables false
set_option linter.unusedSimpArgs false
namespace Go.Vai
open Go
variable {pr : Prims Bool} {P : Program} {w : World}

theorem HR.start (w : World) : HR P (fun _ => none) ⟨0, .nil, 0⟩ w :=
  ⟨fun _ _ _ _ e => (by cases e), fun _ _ e => (by cases e), fun b o _ e => (by rw [T.get_nil] at e; cases e), by decide, fun _ _ _ _ _ _ _ _ _ _ e => (by cases e), Nat.le_refl _⟩

/-- what lay before lies as it lay -/
def GrownOld (w w' : World) : Prop := w.keptBut w' (fun _ => False) ∧ (∀ a : Addr, a.block < w.heap.size → w'.frozen? a = w.frozen? a) ∧ w.heap.size ≤ w'.heap.size

theorem grown_of_ext {φ' : Emb} {h' : Heap} {w' : World} (hx : Ext (fun _ => none) φ' ⟨0, .nil, 0⟩ h' w w') : GrownOld w w' := by
  have hfr : ∀ B, B < w.heap.size → w'.heap[B]? = w.heap[B]? := fun B hB => hx.frC B hB fun b pl e => by cases e
  refine ⟨⟨hx.os, hx.output, fun i hi => ?_⟩, fun a ha => ?_, hx.size⟩
  · rw [hfr i hi]
    cases w.heap[i]? with
    | none => rfl
    | some O => cases O <;> first | exact ⟨rfl, rfl, rfl, fun _ _ => rfl⟩ | exact .inr ⟨rfl, rfl⟩ | rfl
  · simp only [World.frozen?, hfr a.block ha]

theorem GrownOld.frame {W w' : World} (h : GrownOld W w') (S : MemPlace → Prop) : W.keptBut w' S := World.keptBut_mono (fun _ f => f.elim) h.1

/-- the row's end, where blocks of the call's own may be marked -/
theorem post_of_old {H : Type} {enc : TypeId × Value → H} {f : Func} {s : ChangeSpec} {apart fresh handsOn again : Bool} {W W' : World} {args : Array Value} {v : Value} {ds gs : List (DataW H)} {before pa pv : List MemPlace}
    (hW : DataW.Whole enc P f.params.toList s.vars apart W args.toList ds gs before)
    (hres : ∀ (b : Nat) (sp : Nat → Bool) (hd : Bool), DataW.TrodAll enc P W' b sp hd f.resultTypes.toList (v.resultList f.resultTypes.size) (s.fn H (ds ++ gs)).results [])
    (hargs : ∀ sp : Nat → Bool, (∀ p ∈ before, sp p.block = true) → DataW.TrodAll enc P W' 0 sp true f.params.toList args.toList (s.fn H (ds ++ gs)).args pa)
    (hvars : ∀ sp : Nat → Bool, (∀ p ∈ before, sp p.block = true) → DataW.TrodVars enc P W' sp s.vars (s.fn H (ds ++ gs)).vars pv)
    (hps : before = pa ++ pv) (hk : W.keptBut W' (· ∈ before)) (hfz : ∀ a : Addr, a.block < W.heap.size → W'.frozen? a = W.frozen? a)
    (hok : ∀ (j : Nat) (t : TypeId) (r : Value), f.resultTypes[j]? = some t → (v.resultList f.resultTypes.size)[j]? = some r → Value.okWide P W' .any 0 t r) :
    s.post enc P f apart fresh handsOn again W args v W' := by
  have hlt : ∀ p ∈ before, p.block < W.heap.size := fun p hp => hW.lt p hp
  have hold : ∀ p ∈ before, (fun b => decide (b < W.heap.size)) p.block = true := fun p hp => by simpa using hlt p hp
  refine ⟨ds, gs, before, [], pa, pv, hW, hres _ _ _, hargs _ hold, hvars _ hold, World.keptBut_mono (fun p hp => ⟨hp, ?_⟩) hk, fun _ => ?_⟩
  · rw [hps, List.mem_append] at hp
    exact Or.inr hp
  · obtain ⟨_, _, _, _, _, hz, hn⟩ := hW
    refine ⟨hok, _, _, ([] ++ pa) ++ pv, ⟨[] ++ pa, pv, ChangeShapes.trodAll_append (hargs _ (fun _ _ => rfl)) (hres _ _ _), hvars _ (fun _ _ => rfl), rfl, ?_, ?_⟩, ?_⟩
    · intro b off hp
      have hm : MemPlace.cell b off ∈ before := by rw [hps]; simpa using hp
      rw [hfz _ (hlt _ hm)]
      exact hz b off hm
    · intro ha
      have := hn ha
      rw [hps] at this
      simpa using this
    · intro p hp _
      rw [hps]
      simpa using hp

theorem of_true {v : Value} (h : (match v with | .bool true => true | _ => false) = true) : v = .bool true := by
  split at h
  · rfl
  · cases h

def yes (b : Bool) : Prop := b = true

theorem answersTrue_sound (hm : P.follows .mixedOrders = true) (hp : PrimsOk yes pr P) {n : Nat} {f : FuncId} (h : answersTrue pr P n f = true) :
    Calls P f #[] w fun e w' => e = .returned (.bool true) ∧ GrownOld w w' := by
  have hfl : ¬ yes false := by simp [yes]
  have hrun := (run_sound (good := yes) hfl hp (draw_sound hfl hp hm) n).1
  have hc := callF_sound (good := yes) (w := w) hfl hp hrun (args := []) (args' := []) .nil (HR.start w) h
  refine Calls.mono hc.2 ?_
  rintro e w' ⟨φ', v, v', h', rfl, g1, g2, g3, g4⟩
  refine ⟨?_, grown_of_ext g4⟩
  have hv := of_true (v := v) g1
  subst hv
  cases g2
  rfl

/-- no function is given: all are run -/
def noPr : Prims Bool := ⟨fun _ => none, fun a b => match a with | true => b | false => false⟩
theorem noPrims : PrimsOk yes noPr P := ⟨fun x y hxy => by cases x <;> simp [noPr, yes] at hxy ⊢; exact hxy, fun f g hg => by cases hg⟩

end Go.Vai
