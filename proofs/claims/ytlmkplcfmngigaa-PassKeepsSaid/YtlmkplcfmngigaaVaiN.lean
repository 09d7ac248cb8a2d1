/-
  PROVED HERE: a part of a calculus of weakest conditions over an abstract heap.
  What simp may look into: the operands of a step, never what comes behind it. (Program-independent.)
-/
import Derived.Test.YtlmkplcfmngigaaVaiM
set_option linter.unusedVariables false
set_option linter.unusedSimpArgs false
namespace Go.Vai
open Go
section
variable {β : Type} {fl : β} {P : Program} {h h' : Heap} {κ : Value → Heap → β} {a a' b b' c c' : Value}
@[congr] theorem binB_congr {op : BinOp} {t : TypeId} {cn gd : Bool} (ha : a = a') (hb : b = b') : binB fl P op t cn gd a b h κ = binB fl P op t cn gd a' b' h κ := by rw [ha, hb]
@[congr] theorem unB_congr {op : UnOp} (ha : a = a') : unB fl op a h κ = unB fl op a' h κ := by rw [ha]
@[congr] theorem convI_congr {k : IntKind} (ha : a = a') : convI fl k a h κ = convI fl k a' h κ := by rw [ha]
@[congr] theorem pickB_congr (hc : c = c') (ha : a = a') (hb : b = b') : pickB fl c a b h κ = pickB fl c' a' b' h κ := by rw [ha, hb, hc]
@[congr] theorem nilB_congr (ha : a = a') : nilB fl a h κ = nilB fl a' h κ := by rw [ha]
@[congr] theorem fieldAddrB_congr {o : Nat} (ha : a = a') : fieldAddrB fl o a h κ = fieldAddrB fl o a' h κ := by rw [ha]
@[congr] theorem indexAddrS_congr {s : Nat} (ha : a = a') (hb : b = b') : indexAddrS fl s a b h κ = indexAddrS fl s a' b' h κ := by rw [ha, hb]
@[congr] theorem indexAddrA_congr {n s : Nat} (ha : a = a') (hb : b = b') : indexAddrA fl n s a b h κ = indexAddrA fl n s a' b' h κ := by rw [ha, hb]
@[congr] theorem fieldB_congr {g : Bool} {s o : Nat} (ha : a = a') : fieldB fl g s o a h κ = fieldB fl g s o a' h κ := by rw [ha]
@[congr] theorem indexB_congr {g : Bool} {n s : Nat} (ha : a = a') (hb : b = b') : indexB fl g n s a b h κ = indexB fl g n s a' b' h κ := by rw [ha, hb]
@[congr] theorem indexS_congr (ha : a = a') (hb : b = b') : indexS fl a b h κ = indexS fl a' b' h κ := by rw [ha, hb]
@[congr] theorem extractB_congr {i : Nat} (ha : a = a') : extractB fl i a h κ = extractB fl i a' h κ := by rw [ha]
@[congr] theorem load1_congr (ha : a = a') : load1 fl a h κ = load1 fl a' h κ := by rw [ha]
@[congr] theorem loadA_congr {s : Nat} (ha : a = a') : loadA fl s a h κ = loadA fl s a' h κ := by rw [ha]
@[congr] theorem storeV_congr {s : Nat} (ha : a = a') (hb : b = b') : storeV fl s a b h κ = storeV fl s a' b' h κ := by rw [ha, hb]
@[congr] theorem ldO_congr {o o' : Option AObj} {i : Nat} {k : Value → β} (ho : o = o') : ldO fl o i k = ldO fl o' i k := by rw [ho]
@[congr] theorem ldA_congr {o o' : Option AObj} {i s : Nat} {k : List Value → β} (ho : o = o') : ldA fl o i s k = ldA fl o' i s k := by rw [ho]
@[congr] theorem stO_congr {o o' : Option AObj} {s i j : Nat} {ws ws' : List Value} {k : Heap → β} (ho : o = o') (hw : ws = ws') (hh : h = h') : stO fl o s i j ws h k = stO fl o' s i j ws' h' k := by rw [ho, hw, hh]
@[congr] theorem optK_congr {o o' : Option Value} {k : Value → β} (ho : o = o') : optK fl o k = optK fl o' k := by rw [ho]
@[congr] theorem newBlock_congr {o : AObj} {k : Nat → Heap → β} (hh : h = h') : newBlock fl o h k = newBlock fl o h' k := by rw [hh]
@[congr] theorem setBlock_congr {i : Nat} {o : AObj} {k : Heap → β} (hh : h = h') : setBlock fl i o h k = setBlock fl i o h' k := by rw [hh]
@[congr] theorem cellsK_congr {ws ws' : List Value} {e : TypeId} {g : Bool} {k : AObj → β} (hw : ws = ws') : cellsK fl ws e g k = cellsK fl ws' e g k := by rw [hw]
@[congr] theorem newCells_congr {ws ws' : List Value} {e : TypeId} {g : Bool} {k : Nat → Heap → β} (hw : ws = ws') (hh : h = h') : newCells fl ws e g h k = newCells fl ws' e g h' k := by rw [hw, hh]
@[congr] theorem fillB_congr {ps : List (Nat × Nat)} {vs vs' cs cs' : List Value} {k : List Value → β} (hv : vs = vs') (hc : cs = cs') : fillB fl ps vs cs k = fillB fl ps vs' cs' k := by rw [hv, hc]
@[congr] theorem sliceB_congr {e s : Nat} {l u m l' u' m' : Option Value} (ha : a = a') (hl : l = l') (hu : u = u') (hm : m = m') : sliceB fl e s a l u m h κ = sliceB fl e s a' l' u' m' h κ := by rw [ha, hl, hu, hm]
@[congr] theorem sliceS_congr {l u m l' u' m' : Option Value} (ha : a = a') (hl : l = l') (hu : u = u') (hm : m = m') : sliceS fl a l u m h κ = sliceS fl a' l' u' m' h κ := by rw [ha, hl, hu, hm]
@[congr] theorem appendB_congr {e s : Nat} {z : List Value} {g : Bool} (ha : a = a') (hb : b = b') (hh : h = h') : appendB fl e s z g a b h κ = appendB fl e s z g a' b' h' κ := by rw [ha, hb, hh]
@[congr] theorem copyB_congr {s : Nat} (ha : a = a') (hb : b = b') : copyB fl s a b h κ = copyB fl s a' b' h κ := by rw [ha, hb]
@[congr] theorem clearB_congr {z : List Value} (ha : a = a') : clearB fl z a h κ = clearB fl z a' h κ := by rw [ha]
@[congr] theorem lenSli_congr (ha : a = a') : lenSli fl a h κ = lenSli fl a' h κ := by rw [ha]
@[congr] theorem lenStr_congr (ha : a = a') : lenStr fl a h κ = lenStr fl a' h κ := by rw [ha]
@[congr] theorem lenMap_congr (ha : a = a') : lenMap fl a h κ = lenMap fl a' h κ := by rw [ha]
@[congr] theorem lookupB_congr {t : TypeId} {z : Value} {g : Bool} (ha : a = a') (hb : b = b') : lookupB fl P t z g a b h κ = lookupB fl P t z g a' b' h κ := by rw [ha, hb]
@[congr] theorem mapUpdateB_congr {t : TypeId} (ha : a = a') (hb : b = b') (hc : c = c') : mapUpdateB fl P t a b c h κ = mapUpdateB fl P t a' b' c' h κ := by rw [ha, hb, hc]
@[congr] theorem deleteB_congr {t : TypeId} (ha : a = a') (hb : b = b') : deleteB fl P t a b h κ = deleteB fl P t a' b' h κ := by rw [ha, hb]
@[congr] theorem rangeB_congr (ha : a = a') : rangeB fl a h κ = rangeB fl a' h κ := by rw [ha]
@[congr] theorem nextB_congr {f : β → β → β} (ha : a = a') : nextB fl f a h κ = nextB fl f a' h κ := by rw [ha]
@[congr] theorem entryB_congr (ha : a = a') : entryB fl a h κ = entryB fl a' h κ := by rw [ha]
@[congr] theorem typeAssertB_congr {t : TypeId} {z : Value} {g : Bool} (ha : a = a') : typeAssertB fl t z g a h κ = typeAssertB fl t z g a' h κ := by rw [ha]
@[congr] theorem minB_congr (ha : a = a') (hb : b = b') : minB fl a b h κ = minB fl a' b' h κ := by rw [ha, hb]
@[congr] theorem maxB_congr (ha : a = a') (hb : b = b') : maxB fl a b h κ = maxB fl a' b' h κ := by rw [ha, hb]
end
section
variable {P : Program} {h h' : Heap} {κ : Value → Heap → Prop}
@[congr] theorem RdK_congr {o o' : Option Value} (ho : o = o') : RdK o h κ = RdK o' h κ := by rw [ho]
@[congr] theorem AlK_congr {o o' : Option (AObj × (Nat → Value))} (ho : o = o') : AlK o h κ = AlK o' h κ := by rw [ho]
@[congr] theorem GuardW_congr {b b' : Bool} {f : (Value → Heap → Prop) → Prop} (hb : b = b') : GuardW b f h κ = GuardW b' f h κ := by rw [hb]
@[congr] theorem SameK_congr {b b' : Bool} {p : Prop} (hb : b = b') : SameK b p = SameK b' p := by rw [hb]
@[congr] theorem CondW_congr {v v' : Value} {A B : Prop} (hv : v = v') : CondW v A B = CondW v' A B := by rw [hv]
@[congr] theorem JoinR_congr {A : (List Value → Heap → Prop) → Prop} {B : List Value → Heap → Prop} : JoinR A B = JoinR A B := rfl
@[congr] theorem LoopR_congr {l l' : List Value} {body : List Value → Heap → (List Value → Heap → Prop) → Prop} (hh : h = h') : LoopR l h body = LoopR l h' body := by rw [hh]
@[congr] theorem CallW_congr {f : FuncId} {l l' : List Value} (hl : l = l') (hh : h = h') : CallW P f l h κ = CallW P f l' h' κ := by rw [hl, hh]
@[congr] theorem CallV_congr {v v' : Value} {l l' : List Value} (hv : v = v') (hl : l = l') (hh : h = h') : CallV P v l h κ = CallV P v' l' h' κ := by rw [hv, hl, hh]
@[congr] theorem CallI_congr {n : String} {v v' : Value} {l l' : List Value} (hv : v = v') (hl : l = l') (hh : h = h') : CallI P n v l h κ = CallI P n v' l' h' κ := by rw [hv, hl, hh]
end
end Go.Vai
