/-
  PROVED HERE: a part of the proof (A16).
-/
import Derived.Test.YtijmemedhkgplaaGreatDoorND
import Derived.Test.YtijmemedhkgplaaGreatDoorV3
import Derived.Test.YtijmemedhkgplaaGreatDoorRows
set_option linter.unusedVariables false
set_option linter.unusedSimpArgs false
set_option maxRecDepth 100000
namespace Go.Vai
open Go Go.RowKit Go.WideShapes Go.ChangeShapes
open Classical
variable {P : Program}
section
variable {α : Type} {dc : α → List Value} {s : Nat}
theorem cellT_good (w : World) (vs : List Value) : ∀ (t : T Value) (o i : Nat) (v : Value), vs[i]? = some v → r_ w v → (oV w vs t o).get (o + i) = some (A_ v) := by
  induction vs with
  | nil => intro t o i v h; simp at h
  | cons u vs ih =>
    intro t o i v h hg
    show (oV w vs (Ba w u t o) (o + 1)).get _ = _
    cases i with
    | zero =>
      simp only [List.getElem?_cons_zero, Option.some.injEq] at h
      subst h
      rw [JW _ _ _ _ _ (by omega)]
      exact JV hg _ _
    | succ i =>
      rw [show o + (i + 1) = (o + 1) + i by omega]
      exact ih _ _ _ _ (by simpa using h) hg
theorem SV.good {w : World} {v : Value} {L : List α} (hv : SV dc w v L) : r_ w v := by
  rcases hv with ⟨rfl, rfl | ⟨a, cap, rfl⟩⟩ | ⟨B, o, cap, C, e, fz, rfl, hl, hm, hC, hle, hcell⟩
  · exact .inr (.inl rfl)
  · exact .inr (.inr (.inl ⟨a, cap, rfl⟩))
  · exact .inr (.inr (.inr ⟨B, o, _, cap, rfl, hl, hm, C, e, fz, hC⟩))
theorem SV.abs {w : World} {v : Value} {L : List α} (hv : SV dc w v L) (hg : ∀ a ∈ L, ∀ u ∈ dc a, r_ w u) :
    Sl (fun a => (dc a).map A_) (memH w) (A_ v) L ∧ ∀ e, Cut e s (memH w) (A_ v) L.length := by
  rcases hv with ⟨rfl, rfl | ⟨a, cap, rfl⟩⟩ | ⟨B, o, cap, C, e, fz, rfl, hl, hm, hC, hle, hcell⟩
  · exact ⟨Sl.nil _ _ _, fun e => .inl ⟨rfl, rfl⟩⟩
  · exact ⟨Sl.nil _ _ _, fun e => .inr (.inl ⟨rfl, 0, 0, rfl⟩)⟩
  · cases hL : L with
    | nil => exact ⟨Sl.nil _ _ _, fun e => .inr (.inl ⟨rfl, 0, 0, rfl⟩)⟩
    | cons x L' =>
      have e1 : A_ (.slice (some ⟨B, o, none⟩) L.length cap) = .slice (some ⟨B, o, none⟩) L.length cap := by rw [hL]; rfl
      rw [← hL, e1]
      refine ⟨⟨_, cap, rfl, fun _ => ⟨B, o, rfl, (Array.getElem?_eq_some_iff.1 hC).1, ?_⟩⟩, fun e => .inr (.inr (.inl ⟨B, o, cap, rfl, hl, by unfold maxLen at hm; omega⟩))⟩
      rw [MO hC]
      have efl : L.flatMap (fun a => (dc a).map A_) = (L.flatMap dc).map A_ := by rw [List.map_flatMap]
      rw [efl]
      refine ⟨C.size, _, e, .inl rfl, by rw [List.length_map]; exact hle, fun j u hj => ?_⟩
      rw [List.getElem?_map, Option.map_eq_some_iff] at hj
      obtain ⟨u', h1, rfl⟩ := hj
      have h2 := hcell j u' h1
      have hm := List.mem_of_getElem? h1
      rw [List.mem_flatMap] at hm
      obtain ⟨a, ha, hu⟩ := hm
      have := cellT_good w C.toList .nil 0 (o + j) u' (by rw [Array.getElem?_toList]; exact h2) (hg a ha u' hu)
      rwa [Nat.zero_add] at this
theorem map_absv {l : List Value} (h : l.all lS = true) : l.map A_ = l := by
  induction l with
  | nil => rfl
  | cons a l ih => simp only [List.all_cons, Bool.and_eq_true] at h; rw [List.map_cons, JU h.1, ih h.2]
theorem SV.abs1 {w : World} {v : Value} {L : List α} (hv : SV dc w v L) (hone : ∀ a : α, (dc a).all lS = true) : Sl dc (memH w) (A_ v) L ∧ ∀ e, Cut e s (memH w) (A_ v) L.length := by
  have := hv.abs (s := s) fun a _ u hu => .inl (List.all_eq_true.1 (hone a) u hu)
  have e : (fun a => (dc a).map A_) = dc := by funext a; exact map_absv (hone a)
  rwa [e] at this
theorem SV.absA {w : World} {v : Value} {L : List α} (hv : SV dc w v L) : Go.Vai.absA v = A_ v := by
  rcases hv with ⟨rfl, rfl | ⟨a, cap, rfl⟩⟩ | ⟨B, o, cap, C, e, fz, rfl, _⟩ <;> rfl
theorem SV.goodA {w : World} {v : Value} {L : List α} (hv : SV dc w v L) : Go.Vai.goodA w v := by
  have h := hv.good
  rcases hv with ⟨rfl, rfl | ⟨a, cap, rfl⟩⟩ | ⟨B, o, cap, C, e, fz, rfl, _⟩ <;> exact h
theorem SV.read {w : World} {v : Value} {L : List α} (hv : SV dc w v L) (hone : ∀ a : α, (dc a).all lS = true) : Sl dc (memH w) (Go.Vai.absA v) L := by
  rw [hv.absA]; exact (hv.abs1 (s := 1) hone).1
theorem SV.cut {w : World} {v : Value} {L : List α} (hv : SV dc w v L) (hone : ∀ a : α, (dc a).all lS = true) {e : TypeId} {s : Nat} : Cut e s (memH w) (Go.Vai.absA v) L.length := by
  rw [hv.absA]; exact (hv.abs1 (s := s) hone).2 e
end
end Go.Vai
namespace Go.Proofs
open Go.Vai Go.Clashes Go.ChangeShapes Go.WideShapes
theorem laidOut:laidOutB Tryz.prog=true:=by kernel_rfl
theorem open_struct {P:Program} {H:Type} {enc:TypeId × Value→H} {α:Type} {dc:α→List Value} {s:Nat} {W:World} {t:TypeId} {fs:Array Field} {v:Value} {d:DataW H} {p:List MemPlace} {base:Nat} (ht:P.underlying t=some (.struct fs)) (hc:P.cellsOf t=s)
  (A8:∀(n:Nat) (cs:List Value) (d:DataW H × List MemPlace),cs.length=s→DataW.trod enc P W 0 (fun _=>true) true n t cs=some d→∃a:α,cs=dc a)
  (hw:Value.okWide P W .any base t v) (h:DataW.Trod enc P W 0 (fun _=>true) true t v d p):∃a:α,v=.agg ⟨dc a⟩:=by
 obtain ⟨cs,rfl,hsz⟩:=okWide_struct ht hw
 obtain ⟨fuel,hf⟩:=h
 have hf:DataW.trod enc P W 0 (fun _=>true) true fuel t cs.toList=some (d,p):=hf
 obtain ⟨a,ha⟩:=A8 fuel cs.toList _ (by simp[hsz,hc]) hf
 refine ⟨a,?_⟩
 rw[←ha]
theorem decAct {H:Type} {enc:TypeId × Value→H} {w:World} (n:Nat) (cs:List Value) (d:DataW H × List MemPlace) (hl:cs.length=6) (h:DataW.trod enc Tryz.prog w 0 (fun _=>true) true n 35 cs=some d):∃p:Act,cs=dc p:=by
 have k0:=Dh (P:=Tryz.prog) 10 35 [.i .i64,.i .i64,.i .i64,.i .i64,.i .i64,.i .i64] (by kernel_rfl) _ _ _ h
 clear h
 obtain ⟨_,_,rfl,⟨n0,rfl,_⟩,k1⟩:=k0.mI
 obtain ⟨_,_,rfl,⟨n1,rfl,_⟩,k2⟩:=k1.mI
 obtain ⟨_,_,rfl,⟨n2,rfl,_⟩,k3⟩:=k2.mI
 obtain ⟨_,_,rfl,⟨n3,rfl,_⟩,k4⟩:=k3.mI
 obtain ⟨_,_,rfl,⟨n4,rfl,_⟩,k5⟩:=k4.mI
 obtain ⟨_,_,rfl,⟨n5,rfl,_⟩,k6⟩:=k5.mI
 cases k6.S5
 exact ⟨⟨_,_,_,_,_,_⟩,rfl⟩
def encC (c:fI):List Value:=[.int .i64 c.S,.int .i64 c.H,.int .i64 c.R,.int .i64 c.P]
theorem decC {H:Type} {enc:TypeId × Value→H} {w:World} (n:Nat) (cs:List Value) (d:DataW H × List MemPlace) (hl:cs.length=4) (h:DataW.trod enc Tryz.prog w 0 (fun _=>true) true n 29 cs=some d):∃p:fI,cs=encC p:=by
 have k0:=Dh (P:=Tryz.prog) 10 29 [.i .i64,.i .i64,.i .i64,.i .i64] (by kernel_rfl) _ _ _ h
 clear h
 obtain ⟨_,_,rfl,⟨n0,rfl,_⟩,k1⟩:=k0.mI
 obtain ⟨_,_,rfl,⟨n1,rfl,_⟩,k2⟩:=k1.mI
 obtain ⟨_,_,rfl,⟨n2,rfl,_⟩,k3⟩:=k2.mI
 obtain ⟨_,_,rfl,⟨n3,rfl,_⟩,k4⟩:=k3.mI
 cases k4.S5
 exact ⟨⟨_,_,_,_⟩,rfl⟩
theorem lawScriptT_row (c:fI) (L:List Act) (h:Heap) (v:Value) (hv:Sl dc h v L) (hc:Cut 35 6 h v L.length) (hlo:h.lo≤h.nx) (hno:∀c vs t,h.bl.get c≠some (af vs t true)) :
  CallW Tryz.prog 7 [.agg ⟨encC c⟩,v] h A5:=Cd c L h v hv hlo hno A5 fun _=>rfl
end Go.Proofs
