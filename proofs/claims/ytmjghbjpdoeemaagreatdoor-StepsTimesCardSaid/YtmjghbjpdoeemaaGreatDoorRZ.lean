/-
  PROVED HERE: a part of the proof (RZ).
-/
import Derived.Test.YtmjghbjpdoeemaaGreatDoorG3
import Derived.Test.YtmjghbjpdoeemaaGreatDoorProg
import Derived.KernelRfl
set_option linter.unusedVariables false
set_option linter.unusedSimpArgs false
set_option maxRecDepth 100000
namespace Go.Proofs
open Go.Vai
open Tryz (prog)
noncomputable section
def Eb (v6:Value) (Iz:List Value) (h:Heap) (κ:KQ):Prop :=
 CallW prog 17 [v6,(.int .i64 1),(.int .i64 3)] h fun Bt h=>
 aq False 0 Bt h fun v105 h=>
 aq False 1 Bt h fun JX h=>
 aq False 2 Bt h fun v107 h=>
 CallW prog 34 [v6] h fun Ec h=>
 aq False 0 Ec h fun v109 h=>
 aq False 1 Ec h fun NN h=>
 aq False 2 Ec h fun JY h=>
 ag (ai v105 true) (fun aap=>
 aap JX h) h fun R8 h=>
 ag (ai v105 true) (fun aaq=>
 aaq (slot Iz 1) h) h fun zD h=>
 ag (ai v105 true) (fun aar=>
 au False prog .eql 3 false false R8 zD h aar) h fun v117 h=>
 aW False v105 v117 (.bool false) h fun Hi h=>
 ag (ai Hi true) (fun aas=>
 aas v107 h) h fun NO h=>
 ag (ai Hi true) (fun aat=>
 au False prog .eql 26 true false NO (.int .i64 0) h aat) h fun NP h=>
 aW False Hi NP (.bool false) h fun Hj h=>
 ag (ai Hj true) (fun aau=>
 aau JY h) h fun NQ h=>
 ag (ai Hj true) (fun aav=>
 au False prog .eql 3 true false NQ (.int .i64 0) h aav) h fun v127 h=>
 aW False Hj v127 (.bool false) h fun Bu h=>
 ag (ai Bu true) (fun aaw=>
 aaw v6 h) h fun v130 h=>
 ag (ai Bu true) (fun aax=>
 CallW prog 23 [v130] h aax) h fun NR h=>
 ag (ai Bu true) (fun aay=>
 bz False NR h aay) h fun NS h=>
 ag (ai Bu true) (fun aaz=>
 au False prog .eql 3 true false NS (.int .i64 1) h aaz) h fun NT h=>
 aW False Bu NT (.bool false) h fun Bv h=>
 ag (ai Bv true) (fun aaA=>
 aaA v6 h) h fun v139 h=>
 ag (ai Bv true) (fun aaB=>
 CallW prog 33 [v139,(.int .i64 1)] h aaB) h fun v141 h=>
 ag (ai Bv true) (fun aaC=>
 iX False .not v141 h aaC) h fun v143 h=>
 aW False Bv v143 (.bool false) h fun NU h=>
 κ NU h
def JZ (a3 v6:Value) (Zp:List Value→Heap→Prop) (h:Heap) (κ:KQ):Prop :=
 az a3 (
 CallW prog 33 [v6,(.int .i64 1)] h fun v76 h=>
 iX False .not v76 h fun v77 h=>
 az v77 (
 κ (.bool false) h) (
 Zp [a3,(.int .i64 3),v6,v76,v77,(.bool false)] h)) (
 Zp [a3,(.int .i64 2),undef,undef,undef,(.bool false)] h)
def Ed (v6 a3:Value) (Iz:List Value) (h:Heap) (κ:KQ):Prop :=
 CallW prog 30 [v6,(.int .i64 1)] h fun v78 h=>
 aq False 0 v78 h fun v79 h=>
 aq False 1 v78 h fun v80 h=>
 au False prog .neq 26 true false v80 (.int .i64 0) h fun Dz h=>
 ag (ai Dz false) (fun K82=>
 K82 v79 h) h fun Hl h=>
 ag (ai Dz false) (fun K84=>
 bz False Hl h K84) h fun v85 h=>
 ag (ai Dz false) (fun K86=>
 au False prog .neq 3 true false v85 (.int .i64 1) h K86) h fun v87 h=>
 ag (ai Dz false) (fun K88=>
 K88 v87 h) h fun DA h=>
 ag (ai DA true) (fun K90=>
 K90 a3 h) h fun v91 h=>
 ag (ai DA true) (fun K92=>
 iX False .not v91 h K92) h fun v93 h=>
 ag (ai Dz false) (fun K94=>
 aW False DA v93 (.bool false) h K94) h fun NV h=>
 aW False Dz (.bool true) NV h fun NW h=>
 ag (ai NW false) (fun K97=>
 K97 v6 h) h fun v98 h=>
 ag (ai NW false) (fun K99=>
 CallW prog 31 [v98,(.int .i64 1)] h K99) h fun Ee h=>
 ag (ai NW false) (fun aaK=>
 iX False .not Ee h aaK) h fun Ho h=>
 aW False NW (.bool true) Ho h fun J1 h=>
 az J1 (
 κ (.bool false) h) (
 Eb v6 Iz h κ)
def Ef (v6:Value) (h:Heap) (κ:KQ):Prop :=
 CallW prog 17 [v6,(.int .i64 1),(.int .i64 3)] h fun v26 h=>
 aq False 0 v26 h fun v27 h=>
 aq False 1 v26 h fun v28 h=>
 aq False 2 v26 h fun nJ h=>
 ag (ai v27 true) (fun We=>
 We v28 h) h fun v31 h=>
 ag (ai v27 true) (fun K32=>
 au False prog .eql 3 true false v31 (.int .i64 1) h K32) h fun v33 h=>
 aW False v27 v33 (.bool false) h fun ig h=>
 ag (ai ig true) (fun NY=>
 NY nJ h) h fun iS h=>
 ag (ai ig true) (fun NZ=>
 au False prog .eql 26 true false iS (.int .i64 0) h NZ) h fun j0 h=>
 aW False ig j0 (.bool false) h fun v39 h=>
 ag (ai v39 true) (fun Wf=>
 Wf v6 h) h fun v41 h=>
 ag (ai v39 true) (fun Wg=>
 CallW prog 23 [v41] h Wg) h fun qS h=>
 ag (ai v39 true) (fun Wh=>
 bz False qS h Wh) h fun v45 h=>
 ag (ai v39 true) (fun K46=>
 au False prog .eql 3 true false v45 (.int .i64 2) h K46) h fun rO h=>
 aW False v39 rO (.bool false) h fun mL h=>
 κ mL h
def Eg (v6 v5 a3:Value) (h:Heap) (κ:KQ):Prop :=
 CallW prog 17 [v6,(.int .i64 1),(.int .i64 4)] h fun v49 h=>
 au False prog .sub 3 true false v5 (.int .i64 1) h fun v50 h=>
 CallW prog 30 [v6,v50] h fun v51 h=>
 aq False 0 v51 h fun lS h=>
 aq False 1 v51 h fun v53 h=>
 au False prog .neq 26 true false v53 (.int .i64 0) h fun v54 h=>
 ag (ai v54 false) (fun K55=>
 K55 lS h) h fun nK h=>
 ag (ai v54 false) (fun K57=>
 bz False nK h K57) h fun v58 h=>
 ag (ai v54 false) (fun K59=>
 au False prog .neq 3 true false v58 (.int .i64 0) h K59) h fun v60 h=>
 aW False v54 (.bool true) v60 h fun mP h=>
 ag (ai mP false) (fun K62=>
 K62 v6 h) h fun o9 h=>
 ag (ai mP false) (fun K64=>
 CallW prog 31 [o9,(.int .i64 1)] h K64) h fun qs h=>
 aW False mP (.bool true) qs h fun v66 h=>
 ag (ai v66 false) (fun K67=>
 K67 v6 h) h fun tM h=>
 ag (ai v66 false) (fun K69=>
 CallW prog 32 [tM,(.int .i64 1)] h K69) h fun v70 h=>
 ag (ai v66 false) (fun K71=>
 iX False .not v70 h K71) h fun v72 h=>
 aW False v66 (.bool true) v72 h fun FJ h=>
 az FJ (
 κ (.bool false) h) (
 dw (fun Zp=>
 JZ a3 v6 Zp h κ) fun Iz h=>
 Ed v6 a3 Iz h κ)
def J2 (a0 a1 a2 a3:Value) (h:Heap) (κ:KQ):Prop :=
 CallW prog 26 [a0] h fun v2 h=>
 CallW prog 26 [a1] h fun v3 h=>
 CallW prog 12 [a2,(.int .i64 200)] h fun v4 h=>
 au False prog .add 3 true false (.int .i64 1) v4 h fun v5 h=>
 CallW prog 10 [(.int .i64 2)] h fun v6 h=>
 CallW prog 27 [(.int .i64 0)] h fun v7 h=>
 aF False [(.int .i64 0),(.int .i64 0)] 36 false fun o8 => an False o8 h fun b9 h=>
 aG False 2 (ptrTo b9) v7 h fun v10 h=>
 aI False 2 (ptrTo b9) h fun v11 h=>
 CallW prog 28 [(.int .i64 1),v11,v2] h fun v12 h=>
 CallW prog 16 [v6,(.int .i64 0),v12] h fun bN h=>
 CallW prog 17 [v6,(.int .i64 0),(.int .i64 3)] h fun bM h=>
 aI False 2 (ptrTo b9) h fun bR h=>
 CallW prog 28 [(.int .i64 2),bR,v3] h fun v16 h=>
 aF False [(.int .i64 0),(.int .i64 0),(.int .i64 0),(.int .i64 0),(.int .i64 0),(.int .i64 0),(.int .i64 0)] 39 false fun o17 => an False o17 h fun R9 h=>
 aG False 7 (ptrTo R9) v16 h fun v19 h=>
 fieldAddrB False 5 (ptrTo R9) h fun v20 h=>
 aG False 1 v20 v5 h fun v21 h=>
 aI False 7 (ptrTo R9) h fun v22 h=>
 CallW prog 16 [v6,(.int .i64 1),v22] h fun v23 h=>
 au False prog .neq 26 true false v23 (.int .i64 0) h fun v24 h=>
 az v24 (
 κ (.bool false) h) (
 CallW prog 29 [v2,v3] h fun v25 h=>
 az v25 (
 Ef v6 h κ) (
 Eg v6 v5 a3 h κ))
theorem aaR (a0 a1 a2 a3:Value) (h:Heap) (κ:KQ):aJ prog 5 [a0,a1,a2,a3] h κ = (
 CallW prog 7 [] h fun v0 h=>
 iX False .not v0 h fun v1 h=>
 az v1 (
 κ (.bool false) h) (
 J2 a0 a1 a2 a3 h κ)) := by kernel_rfl
def J3 (v0:Value) (h:Heap) (κ:KQ):Prop :=
 CallW prog 17 [v0,(.int .i64 0),(.int .i64 3)] h fun bN h=>
 aq False 0 bN h fun bM h=>
 aq False 1 bN h fun bR h=>
 aq False 2 bN h fun v16 h=>
 ag (ai bM true) (fun R_=>
 R_ bR h) h fun cM h=>
 ag (ai bM true) (fun Hp=>
 au False prog .eql 3 true false cM (.int .i64 1) h Hp) h fun v20 h=>
 aW False bM v20 (.bool false) h fun v21 h=>
 ag (ai v21 true) (fun K22=>
 K22 v16 h) h fun v23 h=>
 ag (ai v21 true) (fun Sa=>
 au False prog .eql 26 true false v23 (.int .i64 0) h Sa) h fun v25 h=>
 aW False v21 v25 (.bool false) h fun v26 h=>
 κ v26 h
theorem aaS (h:Heap) (κ:KQ):aJ prog 7 [] h κ = (
 CallW prog 10 [(.int .i64 2)] h fun v0 h=>
 au False prog .eql 32 true false v0 (.pointer none) h fun v1 h=>
 ag (ai v1 false) (fun K2=>
 K2 v0 h) h fun v3 h=>
 ag (ai v1 false) (fun K4=>
 CallW prog 27 [(.int .i64 0)] h K4) h fun v5 h=>
 ag (ai v1 false) (fun K6=>
 CallW prog 28 [(.int .i64 1),v5,(.int .i64 6)] h K6) h fun v7 h=>
 ag (ai v1 false) (fun K8=>
 CallW prog 16 [v3,(.int .i64 0),v7] h K8) h fun v9 h=>
 ag (ai v1 false) (fun qT=>
 au False prog .neq 26 true false v9 (.int .i64 0) h qT) h fun v11 h=>
 aW False v1 (.bool true) v11 h fun v12 h=>
 az v12 (
 κ (.bool false) h) (
 J3 v0 h κ)) := by kernel_rfl
theorem aaT (h:Heap) (κ:KQ):aJ prog 9 [] h κ = (
 aF False [(.int .i64 0),(.int .i64 0),(.int .i64 0),(.int .i64 0)] 30 false fun o0 => an False o0 h fun b1 h=>
 bJ False [(0,1),(1,1),(2,1),(3,1)] [(.int .i64 2),(.int .i64 8),(.int .i64 24),(.int .i64 2)] [(.int .i64 0),(.int .i64 0),(.int .i64 0),(.int .i64 0)] fun Wi=>
 aG False 4 (ptrTo b1) (Value.agg (Array.mk Wi)) h fun v3 h=>
 aI False 4 (ptrTo b1) h fun v4 _ => κ v4 h) := by kernel_rfl
theorem Wj (a0:Value) (h:Heap) (κ:KQ):aJ prog 10 [a0] h κ = (
 CallW prog 9 [] h fun v0 h=>
 CallW prog 39 [v0,a0] h fun v1 h=>
 aq False 0 v1 h fun v2 h=>
 aq False 1 v1 h fun v3 h=>
 au False prog .neq 26 true false v3 (.int .i64 0) h fun v4 h=>
 az v4 (
 κ (.pointer none) h) (
 κ v2 h)) := by kernel_rfl
def FK (a0 a1:Value) (h:Heap) (κ:KQ):Prop :=
 au False prog .rem 3 false false a0 a1 h fun v1 h=>
 dw (fun N2=>
 au False prog .lss 3 true false v1 (.int .i64 0) h fun v4 h=>
 az v4 (
 au False prog .add 3 false false v1 a1 h fun v5 h=>
 N2 [v1,v4,v1,a1,v5,v5] h) (
 N2 [v1,v4,undef,undef,undef,v1] h)) fun l3 h=>
 κ (slot l3 5) h
theorem Wk (a0 a1:Value) (h:Heap) (κ:KQ):aJ prog 12 [a0,a1] h κ = (
 au False prog .lss 3 true false a1 (.int .i64 1) h fun v0 h=>
 az v0 (
 κ (.int .i64 0) h) (
 FK a0 a1 h κ)) := by kernel_rfl
def kz (a0 a1:Value) (h:Heap) (κ:KQ):Prop :=
 aM False a0 h fun v5 h=>
 fieldAddrB False 4 v5 h fun v6 h=>
 load1 False v6 h fun v7 h=>
 av False 1 v7 a1 h fun v8 h=>
 load1 False v8 h fun v9 h=>
 aM False v9 h fun v10 h=>
 fieldAddrB False 11 v10 h fun v11 h=>
 load1 False v11 h fun v12 h=>
 ic prog v12 [] h fun bN h=>
 aM False v9 h fun bM h=>
 fieldAddrB False 17 bM h fun bR h=>
 load1 False bR h fun v16 h=>
 iX False .not v16 h fun v17 h=>
 az v17 (
 κ (Value.tuple (Array.mk [(.bool false),(.int .i64 0),(.int .i64 0)])) h) (
 ay (some v9) h fun cM h=>
 ay (aM none cM h fun v _=>some v) h fun v19 h=>
 ay (fieldAddrB none 16 v19 h fun v _=>some v) h fun v20 h=>
 ay (load1 none v20 h fun v _=>some v) h fun v21 h=>
 cZ ((eU (some v9) cM) && ((eU (aM none cM h fun v _=>some v) v19) && ((eU (fieldAddrB none 16 v19 h fun v _=>some v) v20) && ((eU (load1 none v20 h fun v _=>some v) v21) && true)))) (κ (Value.tuple (Array.mk [(.bool true),v21,(.int .i64 0)])) h))
def kE (a0 a1:Value) (h:Heap) (κ:KQ):Prop :=
 CallW prog 41 [a0,a1] h fun v1 h=>
 iX False .not v1 h fun v2 h=>
 az v2 (
 κ (Value.tuple (Array.mk [(.bool false),(.int .i64 0),(.int .i64 2)])) h) (
 CallW prog 31 [a0,a1] h fun v3 h=>
 iX False .not v3 h fun v4 h=>
 az v4 (
 κ (Value.tuple (Array.mk [(.bool false),(.int .i64 0),(.int .i64 7)])) h) (
 kz a0 a1 h κ))
theorem vC (a0 a1:Value) (h:Heap) (κ:KQ):aJ prog 14 [a0,a1] h κ = (
 au False prog .eql 32 true false a0 (.pointer none) h fun v0 h=>
 az v0 (
 κ (Value.tuple (Array.mk [(.bool false),(.int .i64 0),(.int .i64 1)])) h) (
 kE a0 a1 h κ)) := by kernel_rfl
def FL (b1:Nat) (a0 a1:Value) (h:Heap) (κ:KQ):Prop :=
 ay (aI none 7 (ptrTo b1) h fun v _=>some v) h fun cM h=>
 ay (some a0) h fun v19 h=>
 ay (some a1) h fun v20 h=>
 ay (some a0) h fun v21 h=>
 ay (aM none v21 h fun v _=>some v) h fun v22 h=>
 ay (fieldAddrB none 6 v22 h fun v _=>some v) h fun v23 h=>
 ay (load1 none v23 h fun v _=>some v) h fun v24 h=>
 ay (some a0) h fun v25 h=>
 ay (aM none v25 h fun v _=>some v) h fun v26 h=>
 ay (fieldAddrB none 0 v26 h fun v _=>some v) h fun v27 h=>
 ay (load1 none v27 h fun v _=>some v) h fun v28 h=>
 ay (fieldAddrB none 2 (ptrTo b1) h fun v _=>some v) h fun nJ h=>
 ay (aI none 2 nJ h fun v _=>some v) h fun v30 h=>
 CallW prog 44 [v28,v30] h fun v31 h=>
 cZ ((eU (aI none 7 (ptrTo b1) h fun v _=>some v) cM) && ((eU (some a0) v19) && ((eU (some a1) v20) && ((eU (some a0) v21) && ((eU (aM none v21 h fun v _=>some v) v22) && ((eU (fieldAddrB none 6 v22 h fun v _=>some v) v23) && ((eU (load1 none v23 h fun v _=>some v) v24) && true))))))) (ay (bJ none [(0,7),(7,1),(8,1),(9,1),(10,1)] [cM,v19,v20,v24,v31] [(.int .i64 0),(.int .i64 0),(.int .i64 0),(.int .i64 0),(.int .i64 0),(.int .i64 0),(.int .i64 0),(.pointer none),(.int .i64 0),(.int .i64 0),(.int .i64 0),Value.nilFunc,(.int .i64 0),(.bool false),(.int .i64 0),(.int .i64 0),(.int .i64 0),(.bool false),(.slice none 0 0)] fun cs => some (Value.agg (Array.mk cs))) h fun v32 h=>
 Dy (aF none (Value.cells v32).toList 99 false fun o => some (o,ptrTo)) h fun v33 h=>
 CallW prog 45 [v33,(.int .i64 1),(Value.func (.func 46) (Array.mk [v33]) (Array.mk []))] h fun ig h=>
 aM False a0 h fun v35 h=>
 fieldAddrB False 6 v35 h fun iS h=>
 load1 False iS h fun v37 h=>
 au False prog .add 3 true false v37 (.int .i64 1) h fun j0 h=>
 aM False a0 h fun v39 h=>
 fieldAddrB False 6 v39 h fun v40 h=>
 aG False 1 v40 j0 h fun v41 h=>
 aM False a0 h fun lH h=>
 fieldAddrB False 4 lH h fun qS h=>
 load1 False qS h fun v44 h=>
 av False 1 v44 a1 h fun v45 h=>
 aG False 1 v45 v33 h fun v46 h=>
 κ (.int .i64 0) h)
def FM (a0 a1:Value) (b1:Nat) (h:Heap) (κ:KQ):Prop :=
 aM False a0 h fun v12 h=>
 fieldAddrB False 4 v12 h fun bN h=>
 load1 False bN h fun bM h=>
 av False 1 bM a1 h fun bR h=>
 load1 False bR h fun v16 h=>
 au False prog .neq 96 true false v16 (.pointer none) h fun v17 h=>
 az v17 (
 κ (.int .i64 7) h) (
 FL b1 a0 a1 h κ)
def FN (a0 a1:Value) (b1:Nat) (h:Heap) (κ:KQ):Prop :=
 CallW prog 41 [a0,a1] h fun v3 h=>
 iX False .not v3 h fun v4 h=>
 ag (ai v4 false) (fun K5=>
 aI False 7 (ptrTo b1) h K5) h fun v6 h=>
 ag (ai v4 false) (fun K7=>
 CallW prog 43 [v6] h K7) h fun v8 h=>
 ag (ai v4 false) (fun K9=>
 iX False .not v8 h K9) h fun v10 h=>
 aW False v4 (.bool true) v10 h fun v11 h=>
 az v11 (
 κ (.int .i64 2) h) (
 FM a0 a1 b1 h κ)
theorem Wl (a0 a1 a2:Value) (h:Heap) (κ:KQ):aJ prog 16 [a0,a1,a2] h κ = (
 aF False (Value.cells a2).toList 39 false fun o0 => an False o0 h fun b1 h=>
 au False prog .eql 32 true false a0 (.pointer none) h fun v2 h=>
 az v2 (
 κ (.int .i64 1) h) (
 FN a0 a1 b1 h κ)) := by kernel_rfl
def qU (l1:List Value) (a2 a0 a1:Value) (N0:List Value→Heap→Prop) (h:Heap) (κ:KQ):Prop :=
 au False prog .lss 3 false false (slot l1 15) a2 h fun v2 h=>
 az v2 (
 CallW prog 14 [a0,a1] h fun v3 h=>
 aq False 0 v3 h fun v4 h=>
 aq False 1 v3 h fun v5 h=>
 aq False 2 v3 h fun v6 h=>
 au False prog .add 3 true false (slot l1 15) (.int .i64 1) h fun v7 h=>
 N0 [(slot l1 15),a2,v2,a0,a1,v3,v3,v4,v5,v6,v4,v5,v6,(slot l1 15),v7,v7] h) (
 κ (Value.tuple (Array.mk [(slot l1 10),(slot l1 11),(slot l1 12)])) h)
theorem Qo (a0 a1 a2:Value) (h:Heap) (κ:KQ):aJ prog 17 [a0,a1,a2] h κ = (
 ej [undef,undef,undef,undef,undef,undef,undef,undef,undef,undef,(.bool false),(.int .i64 0),(.int .i64 0),undef,undef,(.int .i64 0)] h fun l1 h N0=>
 qU l1 a2 a0 a1 N0 h κ) := by kernel_rfl
theorem Wm (a0:Value) (h:Heap) (κ:KQ):aJ prog 23 [a0] h κ = (
 au False prog .eql 32 true false a0 (.pointer none) h fun v0 h=>
 az v0 (
 κ (.slice none 0 0) h) (
 aM False a0 h fun v1 h=>
 fieldAddrB False 0 v1 h fun v2 h=>
 load1 False v2 h fun v3 h=>
 CallW prog 53 [v3] h fun v4 h=>
 κ v4 h)) := by kernel_rfl
theorem Wn (a0:Value) (h:Heap) (κ:KQ):aJ prog 26 [a0] h κ = (
 CallW prog 12 [a0,(.int .i64 6)] h fun v0 h=>
 au False prog .add 3 true false (.int .i64 1) v0 h fun v1 h=>
 κ v1 h) := by kernel_rfl
theorem Wo (a0:Value) (h:Heap) (κ:KQ):aJ prog 27 [a0] h κ = (
 aF False [(.int .i64 0),(.int .i64 0)] 36 false fun o0 => an False o0 h fun b1 h=>
 bJ False [(0,1),(1,1)] [a0,(.int .i64 (-1))] [(.int .i64 0),(.int .i64 0)] fun Wi=>
 aG False 2 (ptrTo b1) (Value.agg (Array.mk Wi)) h fun v3 h=>
 aI False 2 (ptrTo b1) h fun v4 _ => κ v4 h) := by kernel_rfl
theorem Wp (a0 a1 a2:Value) (h:Heap) (κ:KQ):aJ prog 28 [a0,a1,a2] h κ = (
 aF False (Value.cells a1).toList 36 false fun o0 => an False o0 h fun b1 h=>
 aF False [(.int .i64 0),(.int .i64 0),(.int .i64 0),(.int .i64 0),(.int .i64 0),(.int .i64 0),(.int .i64 0)] 39 false fun o2 => an False o2 h fun b3 h=>
 aI False 2 (ptrTo b1) h fun v4 h=>
 bJ False [(0,1),(1,1),(2,2),(4,1)] [(.int .i64 1),a0,v4,a2] [(.int .i64 0),(.int .i64 0),(.int .i64 0),(.int .i64 0),(.int .i64 0),(.int .i64 0),(.int .i64 0)] fun U_=>
 aG False 7 (ptrTo b3) (Value.agg (Array.mk U_)) h fun v6 h=>
 aI False 7 (ptrTo b3) h fun v7 _ => κ v7 h) := by kernel_rfl
def FO (ML:Nat) (a0:Value) (l9:List Value) (Va:List Value→Heap→Prop) (bN bM cM v19 v20 v21 v22 v24 v26 v28 v30 v32 ig iS j0 v40 lH v44 v46 mL v50 v51:Value) (h:Heap):Prop :=
 fieldAddrB False 1 (ptrTo ML) h fun lS h=>
 load1 False lS h fun v53 h=>
 CallW prog 60 [a0,v53,(.int .i64 2)] h fun v54 h=>
 fieldAddrB False 1 (ptrTo ML) h fun v55 h=>
 load1 False v55 h fun nK h=>
 bJ False [(0,1)] [nK] (aT [(.int .i64 0)] 1) fun aaU => aF False aaU 3 false fun o57 => an False o57 h fun b58 h=>
 bG False 3 1 [(.int .i64 0)] false (slot l9 33) (sliceTo 1 1 b58) h fun v60 h=>
 Va [bN,bM,(ptrTo ML),cM,v19,v20,v21,v22,v24,v26,v28,v30,v32,ig,iS,j0,v40,lH,v44,v46,mL,v50,v51,a0,lS,v53,v54,(slot l9 33),v55,nK,(sliceTo 1 1 b58),v60,v60] h
def FP (v5:Value) (l9:List Value) (a0:Value) (Va:List Value→Heap→Prop) (h:Heap):Prop :=
 av False 3 v5 (slot l9 35) h fun bN h=>
 aI False 3 bN h fun bM h=>
 aF False [(.int .i64 0),(.int .i64 0),(.int .i64 0)] 120 false fun o15 => an False o15 h fun ML h=>
 aG False 3 (ptrTo ML) bM h fun v17 h=>
 ay (some a0) h fun cM h=>
 ay (fieldAddrB none 1 (ptrTo ML) h fun v _=>some v) h fun v19 h=>
 ay (load1 none v19 h fun v _=>some v) h fun v20 h=>
 CallW prog 32 [cM,v20] h fun v21 h=>
 ay (some v21) h fun v22 h=>
 ag (ai v22 true) (fun J4=>
 ay (some a0) h J4) h fun v24 h=>
 ag (ai v22 true) (fun N_=>
 ay (aM none v24 h fun v _=>some v) h N_) h fun v26 h=>
 ag (ai v22 true) (fun J5=>
 ay (fieldAddrB none 4 v26 h fun v _=>some v) h J5) h fun v28 h=>
 ag (ai v22 true) (fun J6=>
 ay (load1 none v28 h fun v _=>some v) h J6) h fun v30 h=>
 ag (ai v22 true) (fun Hq=>
 ay (fieldAddrB none 1 (ptrTo ML) h fun v _=>some v) h Hq) h fun v32 h=>
 ag (ai v22 true) (fun J7=>
 ay (load1 none v32 h fun v _=>some v) h J7) h fun ig h=>
 ag (ai v22 true) (fun NY=>
 ay (av none 1 v30 ig h fun v _=>some v) h NY) h fun iS h=>
 ag (ai v22 true) (fun NZ=>
 ay (load1 none iS h fun v _=>some v) h NZ) h fun j0 h=>
 ag (ai v22 true) (fun Wq=>
 ay (aM none j0 h fun v _=>some v) h Wq) h fun v40 h=>
 ag (ai v22 true) (fun Sb=>
 ay (fieldAddrB none 9 v40 h fun v _=>some v) h Sb) h fun lH h=>
 ag (ai v22 true) (fun Sc=>
 ay (load1 none lH h fun v _=>some v) h Sc) h fun v44 h=>
 ag (ai v22 true) (fun Sd=>
 ay (fieldAddrB none 2 (ptrTo ML) h fun v _=>some v) h Sd) h fun v46 h=>
 ag (ai v22 true) (fun K47=>
 ay (load1 none v46 h fun v _=>some v) h K47) h fun mL h=>
 ag (ai v22 true) (fun K49=>
 ay (au none prog .eql 3 false false v44 mL h fun v _=>some v) h K49) h fun v50 h=>
 ay (aW none v22 v50 (.bool false) h fun v _=>some v) h fun v51 h=>
 az v51 (
 FO ML a0 l9 Va bN bM cM v19 v20 v21 v22 v24 v26 v28 v30 v32 ig iS j0 v40 lH v44 v46 mL v50 v51 h) (
 Va [bN,bM,(ptrTo ML),cM,v19,v20,v21,v22,v24,v26,v28,v30,v32,ig,iS,j0,v40,lH,v44,v46,mL,v50,v51,(slot l9 24),(slot l9 25),(slot l9 26),(slot l9 27),(slot l9 28),(slot l9 29),(slot l9 30),(slot l9 31),(slot l9 32),(slot l9 33)] h)
def uo (l9:List Value) (v7 v5 a0:Value) (N8:List Value→Heap→Prop) (v6:Value) (h:Heap) (κ:KQ):Prop :=
 au False prog .lss 3 false false (slot l9 35) v7 h fun v10 h=>
 az v10 (
 dw (fun Va=>
 FP v5 l9 a0 Va h) fun oJ h=>
 au False prog .add 3 true false (slot l9 35) (.int .i64 1) h fun mP h=>
 N8 [v10,(slot oJ 0),(slot oJ 1),(slot oJ 2),(slot oJ 3),(slot oJ 4),(slot oJ 5),(slot oJ 6),(slot oJ 7),(slot oJ 8),(slot oJ 9),(slot oJ 10),(slot oJ 11),(slot oJ 12),(slot oJ 13),(slot oJ 14),(slot oJ 15),(slot oJ 16),(slot oJ 17),(slot oJ 18),(slot oJ 19),(slot oJ 20),(slot oJ 21),(slot oJ 22),(slot oJ 23),(slot oJ 24),(slot oJ 25),(slot oJ 26),(slot oJ 27),(slot oJ 28),(slot oJ 29),(slot oJ 30),(slot oJ 31),(slot oJ 32),mP,mP] h) (
 κ (Value.tuple (Array.mk [(slot l9 33),v6])) h)
def zF (a0 a1:Value) (h:Heap) (κ:KQ):Prop :=
 aM False a0 h fun v1 h=>
 fieldAddrB False 3 v1 h fun v2 h=>
 load1 False v2 h fun v3 h=>
 CallW prog 59 [v3,a1] h fun v4 h=>
 aq False 0 v4 h fun v5 h=>
 aq False 1 v4 h fun v6 h=>
 bz False v5 h fun v7 h=>
 ej [undef,undef,undef,undef,undef,undef,undef,undef,undef,undef,undef,undef,undef,undef,undef,undef,undef,undef,undef,undef,undef,undef,undef,undef,undef,undef,undef,undef,undef,undef,undef,undef,undef,(.slice none 0 0),undef,(.int .i64 0)] h fun l9 h N8=>
 uo l9 v7 v5 a0 N8 v6 h κ
theorem Qp (a0 a1:Value) (h:Heap) (κ:KQ):aJ prog 30 [a0,a1] h κ = (
 au False prog .eql 32 true false a0 (.pointer none) h fun v0 h=>
 az v0 (
 κ (Value.tuple (Array.mk [(.slice none 0 0),(.int .i64 1)])) h) (
 zF a0 a1 h κ)) := by kernel_rfl
def FQ (a0 v0:Value) (h:Heap) (κ:KQ):Prop :=
 ay (some a0) h fun bR h=>
 ay (aM none bR h fun v _=>some v) h fun v16 h=>
 ay (fieldAddrB none 1 v16 h fun v _=>some v) h fun v17 h=>
 ay (load1 none v17 h fun v _=>some v) h fun cM h=>
 ay (some v0) h fun v19 h=>
 ay (aM none v19 h fun v _=>some v) h fun v20 h=>
 ay (fieldAddrB none 10 v20 h fun v _=>some v) h fun v21 h=>
 ay (load1 none v21 h fun v _=>some v) h fun v22 h=>
 CallW prog 62 [cM,v22] h fun v23 h=>
 ay (some v23) h fun v24 h=>
 ay (aq none 0 v24 h fun v _=>some v) h fun v25 h=>
 ay (aq none 1 v24 h fun v _=>some v) h fun v26 h=>
 cZ ((eU (aq none 1 v24 h fun v _=>some v) v26) && true) (aM False v0 h fun v27 h=>
 fieldAddrB False 12 v27 h fun v28 h=>
 load1 False v28 h fun nJ h=>
 au False prog .neq 3 true false nJ (.int .i64 1) h fun v30 h=>
 ag (ai v30 false) (fun Hq=>
 Hq v26 h) h fun v32 h=>
 ag (ai v30 false) (fun J7=>
 iX False .not v32 h J7) h fun ig h=>
 aW False v30 (.bool true) ig h fun v35 h=>
 κ v35 h)
theorem Qq (a0 a1:Value) (h:Heap) (κ:KQ):aJ prog 31 [a0,a1] h κ = (
 CallW prog 40 [a0,a1] h fun v0 h=>
 au False prog .eql 96 true false v0 (.pointer none) h fun v1 h=>
 ag (ai v1 false) (fun K2=>
 K2 a0 h) h fun v3 h=>
 ag (ai v1 false) (fun K4=>
 aM False v3 h K4) h fun v5 h=>
 ag (ai v1 false) (fun K6=>
 fieldAddrB False 2 v5 h K6) h fun v7 h=>
 ag (ai v1 false) (fun K8=>
 load1 False v7 h K8) h fun v9 h=>
 ag (ai v1 false) (fun qT=>
 qT a1 h) h fun v11 h=>
 ag (ai v1 false) (fun oK=>
 CallW prog 61 [v9,v11] h oK) h fun bN h=>
 aW False v1 (.bool true) bN h fun bM h=>
 az bM (
 κ (.bool false) h) (
 FQ a0 v0 h κ)) := by kernel_rfl
theorem Wr (a0 a1:Value) (h:Heap) (κ:KQ):aJ prog 32 [a0,a1] h κ = (
 CallW prog 40 [a0,a1] h fun v0 h=>
 au False prog .neq 96 true false v0 (.pointer none) h fun v1 h=>
 ag (ai v1 true) (fun K2=>
 K2 v0 h) h fun v3 h=>
 ag (ai v1 true) (fun K4=>
 aM False v3 h K4) h fun v5 h=>
 ag (ai v1 true) (fun K6=>
 fieldAddrB False 13 v5 h K6) h fun v7 h=>
 ag (ai v1 true) (fun K8=>
 load1 False v7 h K8) h fun v9 h=>
 aW False v1 v9 (.bool false) h fun v10 h=>
 ag (ai v10 true) (fun K11=>
 K11 v0 h) h fun v12 h=>
 ag (ai v10 true) (fun K13=>
 aM False v12 h K13) h fun bM h=>
 ag (ai v10 true) (fun K15=>
 fieldAddrB False 16 bM h K15) h fun v16 h=>
 ag (ai v10 true) (fun R_=>
 load1 False v16 h R_) h fun cM h=>
 ag (ai v10 true) (fun Hp=>
 au False prog .eql 3 true false cM (.int .i64 0) h Hp) h fun v20 h=>
 aW False v10 v20 (.bool false) h fun v21 h=>
 κ v21 h) := by kernel_rfl
theorem Qr (a0 a1:Value) (h:Heap) (κ:KQ):aJ prog 33 [a0,a1] h κ = (
 CallW prog 32 [a0,a1] h fun v0 h=>
 dw (fun N1=>
 az v0 (
 CallW prog 60 [a0,a1,(.int .i64 3)] h fun v3 h=>
 N1 [v0,a0,a1,v3] h) (
 N1 [v0,undef,undef,undef] h)) fun l2 h=>
 κ v0 h) := by kernel_rfl
def FT (a0:Value) (h:Heap) (κ:KQ):Prop :=
 aM False a0 h fun v1 h=>
 fieldAddrB False 0 v1 h fun v2 h=>
 load1 False v2 h fun v3 h=>
 CallW prog 63 [v3] h fun v4 h=>
 aq False 0 v4 h fun v5 h=>
 aq False 1 v4 h fun v6 h=>
 aM False a0 h fun v7 h=>
 fieldAddrB False 3 v7 h fun v8 h=>
 load1 False v8 h fun v9 h=>
 CallW prog 64 [v9] h fun v10 h=>
 κ (Value.tuple (Array.mk [v5,v6,v10])) h
theorem Ws (a0:Value) (h:Heap) (κ:KQ):aJ prog 34 [a0] h κ = (
 au False prog .eql 32 true false a0 (.pointer none) h fun v0 h=>
 az v0 (
 κ (Value.tuple (Array.mk [(.int .i64 0),(.int .i64 0),(.int .i64 0)])) h) (
 FT a0 h κ)) := by kernel_rfl
def FU (b1:Nat) (v4 v8 a1:Value) (h:Heap) (κ:KQ):Prop :=
 fieldAddrB False 0 (ptrTo b1) h fun v11 h=>
 load1 False v11 h fun v12 h=>
 CallW prog 69 [v12] h fun bN h=>
 aq False 0 bN h fun bM h=>
 aq False 1 bN h fun bR h=>
 ay (some v4) h fun v16 h=>
 ay (some bM) h fun v17 h=>
 ay (some v8) h fun cM h=>
 ay (some a1) h fun v19 h=>
 Dy (match v19,v19 with | .int _ (.ofNat l),.int _ (.ofNat c) => (match Nat.ble l c,Nat.ble c 1000000 with | true,true => (aF none (aT [(.pointer none)] c) 96 false fun o => some (o,sliceTo l c)) | _,_ => none) | _,_ => none) h fun v20 h=>
 Dy (some ((.map [] 0),gL)) h fun v21 h=>
 CallW prog 70 [] h fun v22 h=>
 cZ ((eU (some v4) v16) && ((eU (some bM) v17) && ((eU (some v8) cM) && ((eU (some a1) v19) && true)))) (ay (bJ none [(0,1),(1,1),(2,1),(3,1),(4,1),(5,1)] [v16,v17,cM,v22,v20,v21] [(.pointer none),(.pointer none),(.pointer none),(.pointer none),(.slice none 0 0),(Value.map none),(.int .i64 0)] fun cs => some (Value.agg (Array.mk cs))) h fun v23 h=>
 Dy (aF none (Value.cells v23).toList 107 false fun o => some (o,ptrTo)) h fun v24 h=>
 κ (Value.tuple (Array.mk [v24,(.int .i64 0)])) h)
def FV (a1:Value) (b1:Nat) (v4:Value) (h:Heap) (κ:KQ):Prop :=
 CallW prog 68 [a1] h fun v7 h=>
 aq False 0 v7 h fun v8 h=>
 aq False 1 v7 h fun v9 h=>
 au False prog .neq 26 true false v9 (.int .i64 0) h fun v10 h=>
 az v10 (
 κ (Value.tuple (Array.mk [(.pointer none),v9])) h) (
 FU b1 v4 v8 a1 h κ)
theorem Wt (a0 a1:Value) (h:Heap) (κ:KQ):aJ prog 39 [a0,a1] h κ = (
 aF False (Value.cells a0).toList 30 false fun o0 => an False o0 h fun b1 h=>
 aI False 4 (ptrTo b1) h fun v2 h=>
 CallW prog 67 [v2] h fun v3 h=>
 aq False 0 v3 h fun v4 h=>
 aq False 1 v3 h fun v5 h=>
 au False prog .neq 26 true false v5 (.int .i64 0) h fun v6 h=>
 az v6 (
 κ (Value.tuple (Array.mk [(.pointer none),v5])) h) (
 FV a1 b1 v4 h κ)) := by kernel_rfl
theorem Wu (a0 a1:Value) (h:Heap) (κ:KQ):aJ prog 40 [a0,a1] h κ = (
 CallW prog 41 [a0,a1] h fun v0 h=>
 iX False .not v0 h fun v1 h=>
 az v1 (
 κ (.pointer none) h) (
 aM False a0 h fun v2 h=>
 fieldAddrB False 4 v2 h fun v3 h=>
 load1 False v3 h fun v4 h=>
 av False 1 v4 a1 h fun v5 h=>
 load1 False v5 h fun v6 h=>
 κ v6 h)) := by kernel_rfl
theorem Ww (a0 a1:Value) (h:Heap) (κ:KQ):aJ prog 41 [a0,a1] h κ = (
 au False prog .neq 32 true false a0 (.pointer none) h fun v0 h=>
 ag (ai v0 true) (fun K1=>
 K1 a1 h) h fun v2 h=>
 ag (ai v0 true) (fun K3=>
 au False prog .geq 3 true false v2 (.int .i64 0) h K3) h fun v4 h=>
 aW False v0 v4 (.bool false) h fun v5 h=>
 ag (ai v5 true) (fun K6=>
 K6 a1 h) h fun v7 h=>
 ag (ai v5 true) (fun K8=>
 K8 a0 h) h fun v9 h=>
 ag (ai v5 true) (fun qT=>
 aM False v9 h qT) h fun v11 h=>
 ag (ai v5 true) (fun oK=>
 fieldAddrB False 4 v11 h oK) h fun bN h=>
 ag (ai v5 true) (fun sv=>
 load1 False bN h sv) h fun bR h=>
 ag (ai v5 true) (fun xI=>
 bz False bR h xI) h fun v17 h=>
 ag (ai v5 true) (fun Bw=>
 au False prog .lss 3 false false v7 v17 h Bw) h fun v19 h=>
 aW False v5 v19 (.bool false) h fun v20 h=>
 κ v20 h) := by kernel_rfl
def FW (b1:Nat) (h:Heap) (κ:KQ):Prop :=
 fieldAddrB False 4 (ptrTo b1) h fun v9 h=>
 load1 False v9 h fun v10 h=>
 CallW prog 73 [v10] h fun v11 h=>
 ag (ai v11 true) (fun oK=>
 fieldAddrB False 4 (ptrTo b1) h oK) h fun bN h=>
 ag (ai v11 true) (fun sv=>
 load1 False bN h sv) h fun bR h=>
 ag (ai v11 true) (fun xI=>
 au False prog .neq 37 true false bR (.int .i64 0) h xI) h fun v17 h=>
 aW False v11 v17 (.bool false) h fun cM h=>
 ag (ai cM true) (fun Hp=>
 fieldAddrB False 5 (ptrTo b1) h Hp) h fun v20 h=>
 ag (ai cM true) (fun Oa=>
 load1 False v20 h Oa) h fun v22 h=>
 ag (ai cM true) (fun J4=>
 au False prog .geq 2 true false v22 (.int .i64 0) h J4) h fun v24 h=>
 aW False cM v24 (.bool false) h fun v25 h=>
 κ v25 h
def FX (b1:Nat) (h:Heap) (κ:KQ):Prop :=
 fieldAddrB False 0 (ptrTo b1) h fun v26 h=>
 load1 False v26 h fun v27 h=>
 au False prog .eql 3 true false v27 (.int .i64 3) h fun v28 h=>
 az v28 (
 fieldAddrB False 6 (ptrTo b1) h fun nJ h=>
 load1 False nJ h fun v30 h=>
 fieldAddrB False 1 (ptrTo b1) h fun v31 h=>
 load1 False v31 h fun v32 h=>
 au False prog .neq 3 false false v30 v32 h fun v33 h=>
 κ v33 h) (
 fieldAddrB False 0 (ptrTo b1) h fun ig h=>
 load1 False ig h fun v35 h=>
 au False prog .eql 3 true false v35 (.int .i64 2) h fun iS h=>
 κ iS h)
theorem WB (a0:Value) (h:Heap) (κ:KQ):aJ prog 43 [a0] h κ = (
 aF False (Value.cells a0).toList 39 false fun o0 => an False o0 h fun b1 h=>
 fieldAddrB False 2 (ptrTo b1) h fun v2 h=>
 aI False 2 v2 h fun v3 h=>
 CallW prog 72 [v3] h fun v4 h=>
 au False prog .neq 26 true false v4 (.int .i64 0) h fun v5 h=>
 az v5 (
 κ (.bool false) h) (
 fieldAddrB False 0 (ptrTo b1) h fun v6 h=>
 load1 False v6 h fun v7 h=>
 au False prog .eql 3 true false v7 (.int .i64 1) h fun v8 h=>
 az v8 (
 FW b1 h κ) (
 FX b1 h κ))) := by kernel_rfl
def FY (b1:Nat) (a0:Value) (h:Heap) (κ:KQ):Prop :=
 ay (aI none 2 (ptrTo b1) h fun v _=>some v) h fun v3 h=>
 ay (some a0) h fun v4 h=>
 ay (aM none v4 h fun v _=>some v) h fun v5 h=>
 ay (fieldAddrB none 0 v5 h fun v _=>some v) h fun v6 h=>
 ay (fieldAddrB none 0 v6 h fun v _=>some v) h fun v7 h=>
 ay (load1 none v7 h fun v _=>some v) h fun v8 h=>
 CallW prog 74 [v3,v8] h fun v9 h=>
 κ v9 h
theorem WC (a0 a1:Value) (h:Heap) (κ:KQ):aJ prog 44 [a0,a1] h κ = (
 aF False (Value.cells a1).toList 36 false fun o0 => an False o0 h fun b1 h=>
 au False prog .eql 100 true false a0 (.pointer none) h fun v2 h=>
 az v2 (
 κ (.int .i64 (-1)) h) (
 FY b1 a0 h κ)) := by kernel_rfl
theorem Qs (a0 a1 a2:Value) (h:Heap) (κ:KQ):aJ prog 45 [a0,a1,a2] h κ = (
 aM False a0 h fun v0 h=>
 fieldAddrB False 12 v0 h fun v1 h=>
 aG False 1 v1 a1 h fun v2 h=>
 aM False a0 h fun v3 h=>
 fieldAddrB False 11 v3 h fun v4 h=>
 aG False 1 v4 a2 h fun v5 h=>
 κ (Value.tuple (Array.mk [])) h) := by kernel_rfl
theorem WD (a0:Value) (h:Heap) (κ:KQ):aJ prog 46 [a0] h κ = (
 ay (some a0) h fun v0 h=>
 ay (aM none v0 h fun v _=>some v) h fun v1 h=>
 ay (fieldAddrB none 7 v1 h fun v _=>some v) h fun v2 h=>
 ay (load1 none v2 h fun v _=>some v) h fun v3 h=>
 ay (aM none v3 h fun v _=>some v) h fun v4 h=>
 ay (fieldAddrB none 1 v4 h fun v _=>some v) h fun v5 h=>
 ay (load1 none v5 h fun v _=>some v) h fun v6 h=>
 ay (some a0) h fun v7 h=>
 ay (aM none v7 h fun v _=>some v) h fun v8 h=>
 ay (fieldAddrB none 10 v8 h fun v _=>some v) h fun v9 h=>
 ay (load1 none v9 h fun v _=>some v) h fun v10 h=>
 ay (some a0) h fun v11 h=>
 ay (aM none v11 h fun v _=>some v) h fun v12 h=>
 ay (fieldAddrB none 8 v12 h fun v _=>some v) h fun bN h=>
 ay (load1 none bN h fun v _=>some v) h fun bM h=>
 CallW prog 75 [v6,v10,bM] h fun bR h=>
 CallW prog 45 [a0,(.int .i64 2),(Value.func (.func 76) (Array.mk [a0]) (Array.mk []))] h fun v16 h=>
 κ (Value.tuple (Array.mk [])) h) := by kernel_rfl
def FZ (Qt b8:Nat) (lI:List Value) (Vb:List Value→Heap→Prop) (cM v19 v23 v24 v25:Value) (h:Heap):Prop :=
 fieldAddrB False 1 (ptrTo Qt) h fun v26 h=>
 load1 False v26 h fun v27 h=>
 fieldAddrB False 0 (ptrTo b8) h fun v28 h=>
 aI False 2 v28 h fun nJ h=>
 fieldAddrB False 2 (ptrTo Qt) h fun v30 h=>
 load1 False v30 h fun v31 h=>
 bJ False [(0,1),(1,2),(3,1)] [v27,nJ,v31] [(.int .i64 0),(.int .i64 0),(.int .i64 0),(.int .i64 0)] fun WE=>
 bJ False [(0,4)] [(Value.agg (Array.mk WE))] (aT [(.int .i64 0),(.int .i64 0),(.int .i64 0),(.int .i64 0)] 1) fun aaZ => aF False aaZ 60 false fun o33 => an False o33 h fun WG h=>
 bG False 60 4 [(.int .i64 0),(.int .i64 0),(.int .i64 0),(.int .i64 0)] false (slot lI 17) (sliceTo 1 1 WG) h fun iS h=>
 Vb [cM,v19,(ptrTo Qt),v23,v24,v25,(slot lI 17),v26,v27,v28,nJ,v30,v31,(Value.agg (Array.mk WE)),(sliceTo 1 1 WG),iS,iS] h
def F0 (v11:Value) (lI:List Value) (b8:Nat) (Vb:List Value→Heap→Prop) (h:Heap):Prop :=
 av False 5 v11 (slot lI 19) h fun cM h=>
 aI False 5 cM h fun v19 h=>
 aF False [(.int .i64 0),(.int .i64 0),(.int .i64 0),(.int .i64 0),(.int .i64 0)] 83 false fun o20 => an False o20 h fun Qt h=>
 aG False 5 (ptrTo Qt) v19 h fun v22 h=>
 fieldAddrB False 2 (ptrTo Qt) h fun v23 h=>
 load1 False v23 h fun v24 h=>
 au False prog .neq 37 true false v24 (.int .i64 0) h fun v25 h=>
 az v25 (
 FZ Qt b8 lI Vb cM v19 v23 v24 v25 h) (
 Vb [cM,v19,(ptrTo Qt),v23,v24,v25,(slot lI 7),(slot lI 8),(slot lI 9),(slot lI 10),(slot lI 11),(slot lI 12),(slot lI 13),(slot lI 14),(slot lI 15),(slot lI 16),(slot lI 17)] h)
def zG (lI:List Value) (v12 v11:Value) (b8:Nat) (N13:List Value→Heap→Prop) (l3:List Value) (N2:List Value→Heap→Prop) (v4 v5 v6 v10:Value) (h:Heap):Prop :=
 au False prog .lss 3 false false (slot lI 19) v12 h fun bR h=>
 az bR (
 dw (fun Vb=>
 F0 v11 lI b8 Vb h) fun Bx h=>
 au False prog .add 3 true false (slot lI 19) (.int .i64 1) h fun v37 h=>
 N13 [bR,(slot Bx 0),(slot Bx 1),(slot Bx 2),(slot Bx 3),(slot Bx 4),(slot Bx 5),(slot Bx 6),(slot Bx 7),(slot Bx 8),(slot Bx 9),(slot Bx 10),(slot Bx 11),(slot Bx 12),(slot Bx 13),(slot Bx 14),(slot Bx 15),(slot Bx 16),v37,v37] h) (
 au False prog .add 3 true false (slot l3 28) (.int .i64 1) h fun j0 h=>
 N2 [v4,v5,v6,(ptrTo b8),v10,v11,v12,bR,(slot lI 1),(slot lI 2),(slot lI 3),(slot lI 4),(slot lI 5),(slot lI 6),(slot lI 7),(slot lI 8),(slot lI 9),(slot lI 10),(slot lI 11),(slot lI 12),(slot lI 13),(slot lI 14),(slot lI 15),(slot lI 16),(slot lI 17),(slot lI 18),(slot lI 19),j0,j0] h)
def F3 (v0:Value) (l3:List Value) (N2:List Value→Heap→Prop) (v4:Value) (h:Heap):Prop :=
 av False 4 v0 (slot l3 28) h fun v5 h=>
 aI False 4 v5 h fun v6 h=>
 aF False [(.int .i64 0),(.int .i64 0),(.slice none 0 0),(.int .i64 0)] 81 false fun o7 => an False o7 h fun b8 h=>
 aG False 4 (ptrTo b8) v6 h fun v9 h=>
 fieldAddrB False 2 (ptrTo b8) h fun v10 h=>
 load1 False v10 h fun v11 h=>
 bz False v11 h fun v12 h=>
 ej [(slot l3 7),(slot l3 8),(slot l3 9),(slot l3 10),(slot l3 11),(slot l3 12),(slot l3 13),(slot l3 14),(slot l3 15),(slot l3 16),(slot l3 17),(slot l3 18),(slot l3 19),(slot l3 20),(slot l3 21),(slot l3 22),(slot l3 23),(slot l3 24),(slot l3 25),(.int .i64 0)] h fun lI h N13=>
 zG lI v12 v11 b8 N13 l3 N2 v4 v5 v6 v10 h
theorem WH (a0:Value) (h:Heap) (κ:KQ):aJ prog 53 [a0] h κ = (
 CallW prog 65 [a0] h fun v0 h=>
 bz False v0 h fun v1 h=>
 ej [undef,undef,undef,undef,undef,undef,undef,undef,undef,undef,undef,undef,undef,undef,undef,undef,undef,undef,undef,undef,undef,undef,undef,undef,(.slice none 0 0),undef,undef,undef,(.int .i64 0)] h fun l3 h N2=>
 au False prog .lss 3 false false (slot l3 28) v1 h fun v4 h=>
 az v4 (
 F3 v0 l3 N2 v4 h) (
 CallW prog 88 [(slot l3 24),(Value.func (.func 89) (Array.mk []) (Array.mk []))] h fun v39 h=>
 κ (slot l3 24) h)) := by kernel_rfl
def zH (a0 a1 a2:Value) (N0:List Value→Heap→Prop) (h:Heap):Prop :=
 aM False a0 h fun v2 h=>
 fieldAddrB False 4 v2 h fun v3 h=>
 load1 False v3 h fun v4 h=>
 av False 1 v4 a1 h fun v5 h=>
 load1 False v5 h fun v6 h=>
 aM False v6 h fun v7 h=>
 fieldAddrB False 15 v7 h fun v8 h=>
 load1 False v8 h fun v9 h=>
 au False prog .eql 3 true false v9 (.int .i64 0) h fun v10 h=>
 az v10 (
 aM False v6 h fun v11 h=>
 fieldAddrB False 15 v11 h fun v12 h=>
 aG False 1 v12 a2 h fun bN h=>
 N0 [a0,v2,v3,v4,a1,v5,v6,v6,v6,v7,v8,v9,v10,v6,a2,v11,v12] h) (
 N0 [a0,v2,v3,v4,a1,v5,v6,v6,v6,v7,v8,v9,v10,undef,undef,undef,undef] h)
theorem WI (a0 a1 a2:Value) (h:Heap) (κ:KQ):aJ prog 60 [a0,a1,a2] h κ = (
 dw (fun N0=>
 zH a0 a1 a2 N0 h) fun l1 h=>
 aM False a0 h fun bM h=>
 fieldAddrB False 2 bM h fun bR h=>
 load1 False bR h fun v16 h=>
 CallW prog 98 [v16,a1] h fun v17 h=>
 κ (Value.tuple (Array.mk [])) h) := by kernel_rfl
theorem WJ (a0 a1:Value) (h:Heap) (κ:KQ):aJ prog 61 [a0,a1] h κ = (
 CallW prog 99 [a0,a1,(.int .i64 1)] h fun v0 h=>
 κ v0 h) := by kernel_rfl
def F4 (a0 a1:Value) (h:Heap) (κ:KQ):Prop :=
 aM False a0 h fun v19 h=>
 fieldAddrB False 0 v19 h fun v20 h=>
 load1 False v20 h fun v21 h=>
 av False 1 v21 a1 h fun v22 h=>
 load1 False v22 h fun v23 h=>
 aM False v23 h fun v24 h=>
 fieldAddrB False 0 v24 h fun v25 h=>
 load1 False v25 h fun v26 h=>
 κ (Value.tuple (Array.mk [v26,(.bool true)])) h
theorem WL (a0 a1:Value) (h:Heap) (κ:KQ):aJ prog 62 [a0,a1] h κ = (
 CallW prog 100 [a0,a1,(.int .i64 0)] h fun v0 h=>
 au False prog .neq 26 true false v0 (.int .i64 0) h fun v1 h=>
 ag (ai v1 false) (fun K2=>
 K2 a0 h) h fun v3 h=>
 ag (ai v1 false) (fun K4=>
 aM False v3 h K4) h fun v5 h=>
 ag (ai v1 false) (fun K6=>
 fieldAddrB False 0 v5 h K6) h fun v7 h=>
 ag (ai v1 false) (fun K8=>
 load1 False v7 h K8) h fun v9 h=>
 ag (ai v1 false) (fun qT=>
 qT a1 h) h fun v11 h=>
 ag (ai v1 false) (fun oK=>
 av False 1 v9 v11 h oK) h fun bN h=>
 ag (ai v1 false) (fun sv=>
 load1 False bN h sv) h fun bR h=>
 ag (ai v1 false) (fun xI=>
 au False prog .eql 176 true false bR (.pointer none) h xI) h fun v17 h=>
 aW False v1 (.bool true) v17 h fun cM h=>
 az cM (
 κ (Value.tuple (Array.mk [(.int .i64 0),(.bool false)])) h) (
 F4 a0 a1 h κ)) := by kernel_rfl
def zI (l6:List Value) (v4 v3:Value) (N5:List Value→Heap→Prop) (a0:Value) (h:Heap) (κ:KQ):Prop :=
 au False prog .lss 3 false false (slot l6 10) v4 h fun v7 h=>
 az v7 (
 av False 1 v3 (slot l6 10) h fun v8 h=>
 load1 False v8 h fun v9 h=>
 CallW prog 101 [v9] h fun v10 h=>
 au False prog .add 3 false false (slot l6 8) v10 h fun v11 h=>
 au False prog .add 3 true false (slot l6 10) (.int .i64 1) h fun v12 h=>
 N5 [v7,v8,v9,v9,(slot l6 8),v9,v10,v11,v11,v12,v12] h) (
 aM False a0 h fun bN h=>
 fieldAddrB False 4 bN h fun bM h=>
 load1 False bM h fun bR h=>
 CallW prog 102 [bR] h fun v16 h=>
 κ (Value.tuple (Array.mk [(slot l6 8),v16])) h)
theorem WM (a0:Value) (h:Heap) (κ:KQ):aJ prog 63 [a0] h κ = (
 au False prog .eql 100 true false a0 (.pointer none) h fun v0 h=>
 az v0 (
 κ (Value.tuple (Array.mk [(.int .i64 0),(.int .i64 0)])) h) (
 aM False a0 h fun v1 h=>
 fieldAddrB False 5 v1 h fun v2 h=>
 load1 False v2 h fun v3 h=>
 bz False v3 h fun v4 h=>
 ej [undef,undef,undef,undef,undef,undef,undef,undef,(.int .i64 0),undef,(.int .i64 0)] h fun l6 h N5=>
 zI l6 v4 v3 N5 a0 h κ)) := by kernel_rfl
theorem WN (a0:Value) (h:Heap) (κ:KQ):aJ prog 64 [a0] h κ = (
 au False prog .eql 103 true false a0 (.pointer none) h fun v0 h=>
 az v0 (
 κ (.int .i64 0) h) (
 aM False a0 h fun v1 h=>
 fieldAddrB False 1 v1 h fun v2 h=>
 load1 False v2 h fun v3 h=>
 bz False v3 h fun v4 h=>
 κ v4 h)) := by kernel_rfl
def zJ (l6:List Value) (v4 v3:Value) (N5:List Value→Heap→Prop) (h:Heap) (κ:KQ):Prop :=
 au False prog .lss 3 false false (slot l6 10) v4 h fun v7 h=>
 az v7 (
 av False 1 v3 (slot l6 10) h fun v8 h=>
 load1 False v8 h fun v9 h=>
 CallW prog 103 [v9] h fun v10 h=>
 bG False 81 4 [(.int .i64 0),(.int .i64 0),(.slice none 0 0),(.int .i64 0)] false (slot l6 8) v10 h fun v11 h=>
 au False prog .add 3 true false (slot l6 10) (.int .i64 1) h fun v12 h=>
 N5 [v7,v8,v9,v9,(slot l6 8),v9,v10,v11,v11,v12,v12] h) (
 CallW prog 104 [(slot l6 8),(Value.func (.func 105) (Array.mk []) (Array.mk []))] h fun bN h=>
 κ (slot l6 8) h)
theorem WO (a0:Value) (h:Heap) (κ:KQ):aJ prog 65 [a0] h κ = (
 au False prog .eql 100 true false a0 (.pointer none) h fun v0 h=>
 az v0 (
 κ (.slice none 0 0) h) (
 aM False a0 h fun v1 h=>
 fieldAddrB False 5 v1 h fun v2 h=>
 load1 False v2 h fun v3 h=>
 bz False v3 h fun v4 h=>
 ej [undef,undef,undef,undef,undef,undef,undef,undef,(.slice none 0 0),undef,(.int .i64 0)] h fun l6 h N5=>
 zJ l6 v4 v3 N5 h κ)) := by kernel_rfl
def F5 (Ob:Nat) (v53:Value) (MM:List Value) (MN:List Value→Heap→Prop) (v49 v50 v51 iS lS v54 v55:Value) (h:Heap):Prop :=
 aM False (ptrTo Ob) h fun nK h=>
 fieldAddrB False 5 nK h fun mA h=>
 load1 False mA h fun v58 h=>
 bJ False [(0,1)] [v53] (aT [(.pointer none)] 1) fun aa2 => aF False aa2 182 false fun o59 => an False o59 h fun b60 h=>
 bG False 182 1 [(.pointer none)] false v58 (sliceTo 1 1 b60) h fun vD h=>
 aM False (ptrTo Ob) h fun o9 h=>
 fieldAddrB False 5 o9 h fun v64 h=>
 aG False 1 v64 vD h fun qs h=>
 au False prog .add 3 true false (slot MM 26) (.int .i64 1) h fun v66 h=>
 MN [v49,v50,v51,iS,lS,lS,v53,v54,v53,v54,v54,v55,(slot MM 12),(slot MM 13),(slot MM 14),(ptrTo Ob),(ptrTo Ob),nK,mA,v58,v53,(sliceTo 1 1 b60),vD,o9,v64,v66,v66] h
def zK (b1:Nat) (iS:Value) (Ob:Nat) (MM:List Value) (MN:List Value→Heap→Prop) (v49:Value) (h:Heap) (κ:KQ):Prop :=
 fieldAddrB False 1 (ptrTo b1) h fun v50 h=>
 load1 False v50 h fun v51 h=>
 CallW prog 109 [v51,iS] h fun lS h=>
 aq False 0 lS h fun v53 h=>
 aq False 1 lS h fun v54 h=>
 au False prog .neq 26 true false v54 (.int .i64 0) h fun v55 h=>
 az v55 (
 κ (Value.tuple (Array.mk [(.pointer none),v54])) h) (
 F5 Ob v53 MM MN v49 v50 v51 iS lS v54 v55 h)
def F6 (b1:Nat) (iS:Value) (h:Heap) (κ:KQ):Prop :=
 aI False 4 (ptrTo b1) h fun v39 h=>
 an False (.map [] 0) h fun b41 h=>
 bJ False [(0,4),(4,1),(6,1)] [v39,iS,(gL b41)] [(.int .i64 0),(.int .i64 0),(.int .i64 0),(.int .i64 0),(.pointer none),(.slice none 0 0),(Value.map none)] fun aa3=>
 aF False (Value.cells (Value.agg (Array.mk aa3))).toList 147 false fun o43 => an False o43 h fun Ob h=>
 fieldAddrB False 0 (ptrTo b1) h fun v45 h=>
 load1 False v45 h fun v46 h=>
 ej [undef,undef,undef,undef,undef,undef,undef,undef,undef,undef,undef,undef,undef,(.pointer none),(.int .i64 0),undef,undef,undef,undef,undef,undef,undef,undef,undef,undef,undef,(.int .i64 0)] h fun MM h MN=>
 au False prog .lss 3 false false (slot MM 26) v46 h fun v49 h=>
 az v49 (
 zK b1 iS Ob MM MN v49 h κ) (
 κ (Value.tuple (Array.mk [(ptrTo Ob),(.int .i64 0)])) h)
def F7 (b1:Nat) (h:Heap) (κ:KQ):Prop :=
 fieldAddrB False 2 (ptrTo b1) h fun v33 h=>
 load1 False v33 h fun ig h=>
 CallW prog 108 [ig] h fun v35 h=>
 aq False 0 v35 h fun iS h=>
 aq False 1 v35 h fun v37 h=>
 au False prog .neq 26 true false v37 (.int .i64 0) h fun j0 h=>
 az j0 (
 κ (Value.tuple (Array.mk [(.pointer none),v37])) h) (
 F6 b1 iS h κ)
theorem WQ (a0:Value) (h:Heap) (κ:KQ):aJ prog 67 [a0] h κ = (
 aF False (Value.cells a0).toList 30 false fun o0 => an False o0 h fun b1 h=>
 fieldAddrB False 0 (ptrTo b1) h fun v2 h=>
 load1 False v2 h fun v3 h=>
 au False prog .lss 3 true false v3 (.int .i64 1) h fun v4 h=>
 ag (ai v4 false) (fun K5=>
 fieldAddrB False 0 (ptrTo b1) h K5) h fun v6 h=>
 ag (ai v4 false) (fun K7=>
 load1 False v6 h K7) h fun v8 h=>
 ag (ai v4 false) (fun K9=>
 au False prog .gtr 3 true false v8 (.int .i64 16) h K9) h fun v10 h=>
 aW False v4 (.bool true) v10 h fun v11 h=>
 ag (ai v11 false) (fun oK=>
 fieldAddrB False 3 (ptrTo b1) h oK) h fun bN h=>
 ag (ai v11 false) (fun sv=>
 load1 False bN h sv) h fun bR h=>
 ag (ai v11 false) (fun xI=>
 au False prog .lss 3 true false bR (.int .i64 0) h xI) h fun v17 h=>
 aW False v11 (.bool true) v17 h fun cM h=>
 ag (ai cM false) (fun Hp=>
 fieldAddrB False 3 (ptrTo b1) h Hp) h fun v20 h=>
 ag (ai cM false) (fun Oa=>
 load1 False v20 h Oa) h fun v22 h=>
 ag (ai cM false) (fun J4=>
 au False prog .gtr 3 true false v22 (.int .i64 8) h J4) h fun v24 h=>
 aW False cM (.bool true) v24 h fun v25 h=>
 ag (ai v25 false) (fun K26=>
 fieldAddrB False 2 (ptrTo b1) h K26) h fun v27 h=>
 ag (ai v25 false) (fun K28=>
 load1 False v27 h K28) h fun nJ h=>
 ag (ai v25 false) (fun We=>
 au False prog .lss 3 true false nJ (.int .i64 1) h We) h fun v31 h=>
 aW False v25 (.bool true) v31 h fun v32 h=>
 az v32 (
 κ (Value.tuple (Array.mk [(.pointer none),(.int .i64 2)])) h) (
 F7 b1 h κ)) := by kernel_rfl
theorem WR (a0:Value) (h:Heap) (κ:KQ):aJ prog 68 [a0] h κ = (
 au False prog .lss 3 true false a0 (.int .i64 1) h fun v0 h=>
 ag (ai v0 false) (fun K1=>
 K1 a0 h) h fun v2 h=>
 ag (ai v0 false) (fun K3=>
 au False prog .gtr 3 true false v2 (.int .i64 8) h K3) h fun v4 h=>
 aW False v0 (.bool true) v4 h fun v5 h=>
 az v5 (
 κ (Value.tuple (Array.mk [(.pointer none),(.int .i64 2)])) h) (
 NM False a0 a0 [(.int .i64 0)] 3 h fun v8 h=>
 bJ False [(0,1)] [v8] [(.slice none 0 0)] fun Se=>
 aF False (Value.cells (Value.agg (Array.mk Se))).toList 193 false fun WT => an False WT h fun Oc h=>
 κ (Value.tuple (Array.mk [(ptrTo Oc),(.int .i64 0)])) h)) := by kernel_rfl
theorem WU (a0:Value) (h:Heap) (κ:KQ):aJ prog 69 [a0] h κ = (
 au False prog .lss 3 true false a0 (.int .i64 1) h fun v0 h=>
 ag (ai v0 false) (fun K1=>
 K1 a0 h) h fun v2 h=>
 ag (ai v0 false) (fun K3=>
 au False prog .gtr 3 true false v2 (.int .i64 16) h K3) h fun v4 h=>
 aW False v0 (.bool true) v4 h fun v5 h=>
 az v5 (
 κ (Value.tuple (Array.mk [(.pointer none),(.int .i64 2)])) h) (
 NM False a0 a0 [(.pointer none)] 176 h fun v8 h=>
 bJ False [(0,1)] [v8] [(.slice none 0 0)] fun Se=>
 aF False (Value.cells (Value.agg (Array.mk Se))).toList 179 false fun WT => an False WT h fun Oc h=>
 κ (Value.tuple (Array.mk [(ptrTo Oc),(.int .i64 0)])) h)) := by kernel_rfl
theorem WV (h:Heap) (κ:KQ):aJ prog 70 [] h κ = (
 bJ False [] [] [(.int .i64 0),(.slice none 0 0)] fun cs0=>
 aF False (Value.cells (Value.agg (Array.mk cs0))).toList 169 false fun o1 => an False o1 h fun b2 h=>
 κ (ptrTo b2) h) := by kernel_rfl
theorem WW (a0:Value) (h:Heap) (κ:KQ):aJ prog 72 [a0] h κ = (
 aF False (Value.cells a0).toList 36 false fun o0 => an False o0 h fun b1 h=>
 aI False 2 (ptrTo b1) h fun v2 h=>
 CallW prog 112 [v2] h fun v3 h=>
 au False prog .eql 3 true false v3 (.int .i64 (-1)) h fun v4 h=>
 az v4 (
 κ (.int .i64 2) h) (
 κ (.int .i64 0) h)) := by kernel_rfl
theorem WX (a0:Value) (h:Heap) (κ:KQ):aJ prog 73 [a0] h κ = (
 au False prog .geq 37 true false a0 (.int .i64 0) h fun v0 h=>
 ag (ai v0 true) (fun K1=>
 K1 a0 h) h fun v2 h=>
 ag (ai v0 true) (fun K3=>
 au False prog .leq 37 true false v2 (.int .i64 6) h K3) h fun v4 h=>
 aW False v0 v4 (.bool false) h fun v5 h=>
 κ v5 h) := by kernel_rfl
theorem WY (a0 a1:Value) (h:Heap) (κ:KQ):aJ prog 74 [a0,a1] h κ = (
 aF False (Value.cells a0).toList 36 false fun o0 => an False o0 h fun b1 h=>
 CallW prog 113 [a1] h fun v2 h=>
 iX False .not v2 h fun v3 h=>
 ag (ai v3 false) (fun K4=>
 aI False 2 (ptrTo b1) h K4) h fun v5 h=>
 ag (ai v3 false) (fun K6=>
 CallW prog 72 [v5] h K6) h fun v7 h=>
 ag (ai v3 false) (fun K8=>
 au False prog .neq 26 true false v7 (.int .i64 0) h K8) h fun v9 h=>
 aW False v3 (.bool true) v9 h fun v10 h=>
 az v10 (
 κ (.int .i64 (-1)) h) (
 aI False 2 (ptrTo b1) h fun v11 h=>
 CallW prog 114 [v11] h fun v12 h=>
 jI False .u32 a1 h fun bN h=>
 au False prog .rem 142 false false v12 bN h fun bM h=>
 jI False .i64 bM h fun bR h=>
 κ bR h)) := by kernel_rfl
def F8 (a0 a2 a1:Value) (h:Heap) (κ:KQ):Prop :=
 aM False a0 h fun v8 h=>
 fieldAddrB False 0 v8 h fun v9 h=>
 load1 False v9 h fun v10 h=>
 bJ False [(0,1)] [a2] [(.int .i64 0)] fun aa6=>
 aF False (Value.cells (Value.agg (Array.mk aa6))).toList 181 false fun o12 => an False o12 h fun Vc h=>
 av False 1 v10 a1 h fun bM h=>
 aG False 1 bM (ptrTo Vc) h fun bR h=>
 κ (Value.tuple (Array.mk [(.bool true),(.int .i64 0)])) h
def Od (v6 a2:Value) (h:Heap) (κ:KQ):Prop :=
 aM False v6 h fun v16 h=>
 fieldAddrB False 0 v16 h fun v17 h=>
 load1 False v17 h fun cM h=>
 au False prog .eql 3 false false cM a2 h fun v19 h=>
 az v19 (
 κ (Value.tuple (Array.mk [(.bool false),(.int .i64 4)])) h) (
 κ (Value.tuple (Array.mk [(.bool false),(.int .i64 0)])) h)
def F9 (a0 a1 a2:Value) (h:Heap) (κ:KQ):Prop :=
 aM False a0 h fun v2 h=>
 fieldAddrB False 0 v2 h fun v3 h=>
 load1 False v3 h fun v4 h=>
 av False 1 v4 a1 h fun v5 h=>
 load1 False v5 h fun v6 h=>
 au False prog .eql 176 true false v6 (.pointer none) h fun v7 h=>
 az v7 (
 F8 a0 a2 a1 h κ) (
 Od v6 a2 h κ)
theorem WZ (a0 a1 a2:Value) (h:Heap) (κ:KQ):aJ prog 75 [a0,a1,a2] h κ = (
 CallW prog 100 [a0,a1,a2] h fun v0 h=>
 au False prog .neq 26 true false v0 (.int .i64 0) h fun v1 h=>
 az v1 (
 κ (Value.tuple (Array.mk [(.bool false),v0])) h) (
 F9 a0 a1 a2 h κ)) := by kernel_rfl
def zL (a0:Value) (N0:List Value→Heap→Prop) (v2 v3 v4:Value) (h:Heap):Prop :=
 ay (some a0) h fun v6 h=>
 ay (aM none v6 h fun v _=>some v) h fun v7 h=>
 ay (fieldAddrB none 0 v7 h fun v _=>some v) h fun v8 h=>
 ay (fieldAddrB none 0 v8 h fun v _=>some v) h fun v9 h=>
 ay (load1 none v9 h fun v _=>some v) h fun v10 h=>
 ay (some a0) h fun v11 h=>
 CallW prog 116 [] h fun v12 h=>
 cZ ((eU (some a0) v6) && ((eU (aM none v6 h fun v _=>some v) v7) && ((eU (fieldAddrB none 0 v7 h fun v _=>some v) v8) && ((eU (fieldAddrB none 0 v8 h fun v _=>some v) v9) && ((eU (load1 none v9 h fun v _=>some v) v10) && ((eU (some a0) v11) && true)))))) (ay (c8 none prog 3 Value.nilFunc false v12 v10 h fun v _=>some v) h fun bN h=>
 ic prog bN [v11] h fun bM h=>
 N0 [a0,v2,v3,v4,undef,undef,v12,v6,v7,v8,v9,v10,bN,v11,bM] h)
def uq (a0:Value) (N0:List Value→Heap→Prop) (h:Heap):Prop :=
 aM False a0 h fun v2 h=>
 fieldAddrB False 13 v2 h fun v3 h=>
 load1 False v3 h fun v4 h=>
 az v4 (
 CallW prog 115 [a0] h fun v5 h=>
 N0 [a0,v2,v3,v4,a0,v5,undef,undef,undef,undef,undef,undef,undef,undef,undef] h) (
 zL a0 N0 v2 v3 v4 h)
theorem J8 (a0:Value) (h:Heap) (κ:KQ):aJ prog 76 [a0] h κ = (
 dw (fun N0=>
 uq a0 N0 h) fun l1 h=>
 CallW prog 45 [a0,(.int .i64 3),(Value.func (.func 117) (Array.mk [a0]) (Array.mk []))] h fun bR h=>
 κ (Value.tuple (Array.mk [])) h) := by kernel_rfl
theorem W0 (a0 a1:Value) (h:Heap) (κ:KQ):aJ prog 89 [a0,a1] h κ = (
 aF False (Value.cells a0).toList 60 false fun o0 => an False o0 h fun b1 h=>
 aF False (Value.cells a1).toList 60 false fun o2 => an False o2 h fun b3 h=>
 ay (fieldAddrB none 0 (ptrTo b1) h fun v _=>some v) h fun v4 h=>
 ay (load1 none v4 h fun v _=>some v) h fun v5 h=>
 ay (fieldAddrB none 0 (ptrTo b3) h fun v _=>some v) h fun v6 h=>
 ay (load1 none v6 h fun v _=>some v) h fun v7 h=>
 ay (fieldAddrB none 1 (ptrTo b1) h fun v _=>some v) h fun v8 h=>
 ay (aI none 2 v8 h fun v _=>some v) h fun v9 h=>
 ay (fieldAddrB none 1 (ptrTo b3) h fun v _=>some v) h fun v10 h=>
 ay (aI none 2 v10 h fun v _=>some v) h fun v11 h=>
 CallW prog 91 [v5,v7] h fun v12 h=>
 cZ ((eU (fieldAddrB none 1 (ptrTo b1) h fun v _=>some v) v8) && ((eU (aI none 2 v8 h fun v _=>some v) v9) && ((eU (fieldAddrB none 1 (ptrTo b3) h fun v _=>some v) v10) && ((eU (aI none 2 v10 h fun v _=>some v) v11) && true)))) (CallW prog 92 [v9,v11] h fun bN h=>
 Dy (bJ none [(0,1),(1,1)] [v12,bN] (aT [(.int .i64 0)] 2) fun cs => aF none cs 3 false fun o => some (o,sliceTo 2 2)) h fun bM h=>
 CallW prog 90 [bM] h fun bR h=>
 κ bR h)) := by kernel_rfl
def qV (a0:Value) (l2:List Value) (N1:List Value→Heap→Prop) (v3:Value) (h:Heap) (κ:KQ):Prop :=
 av False 1 a0 (slot l2 10) h fun v4 h=>
 load1 False v4 h fun v5 h=>
 au False prog .neq 3 false false v5 (.int .i64 0) h fun v6 h=>
 az v6 (
 κ v5 h) (
 au False prog .add 3 true false (slot l2 10) (.int .i64 1) h fun v7 h=>
 N1 [v3,v4,v5,v5,v5,(.int .i64 0),v6,(slot l2 7),(slot l2 8),v7,v7] h)
theorem W1 (a0:Value) (h:Heap) (κ:KQ):aJ prog 90 [a0] h κ = (
 bz False a0 h fun v0 h=>
 ej [undef,undef,undef,undef,undef,undef,undef,undef,(.int .i64 0),undef,(.int .i64 0)] h fun l2 h N1=>
 au False prog .lss 3 false false (slot l2 10) v0 h fun v3 h=>
 az v3 (
 qV a0 l2 N1 v3 h κ) (
 κ (.int .i64 0) h)) := by kernel_rfl
def ur (a0 a1:Value) (h:Heap) (κ:KQ):Prop :=
 au False prog .lss 3 false false a0 a1 h fun v2 h=>
 az v2 (
 κ (.int .i64 (-1)) h) (
 au False prog .gtr 3 false false a0 a1 h fun v3 h=>
 az v3 (
 κ (.int .i64 1) h) (
 κ (.int .i64 0) h))
theorem W2 (a0 a1:Value) (h:Heap) (κ:KQ):aJ prog 91 [a0,a1] h κ = (
 CallW prog 133 [a0] h fun v0 h=>
 CallW prog 133 [a1] h fun v1 h=>
 az v0 (
 az v1 (
 κ (.int .i64 0) h) (
 κ (.int .i64 (-1)) h)) (
 az v1 (
 κ (.int .i64 1) h) (
 ur a0 a1 h κ))) := by kernel_rfl
theorem W3 (a0 a1:Value) (h:Heap) (κ:KQ):aJ prog 92 [a0,a1] h κ = (
 aF False (Value.cells a0).toList 36 false fun o0 => an False o0 h fun b1 h=>
 aF False (Value.cells a1).toList 36 false fun o2 => an False o2 h fun b3 h=>
 ay (fieldAddrB none 0 (ptrTo b1) h fun v _=>some v) h fun v4 h=>
 ay (load1 none v4 h fun v _=>some v) h fun v5 h=>
 ay (fieldAddrB none 0 (ptrTo b3) h fun v _=>some v) h fun v6 h=>
 ay (load1 none v6 h fun v _=>some v) h fun v7 h=>
 ay (fieldAddrB none 1 (ptrTo b1) h fun v _=>some v) h fun v8 h=>
 ay (load1 none v8 h fun v _=>some v) h fun v9 h=>
 ay (fieldAddrB none 1 (ptrTo b3) h fun v _=>some v) h fun v10 h=>
 ay (load1 none v10 h fun v _=>some v) h fun v11 h=>
 CallW prog 91 [v5,v7] h fun v12 h=>
 cZ ((eU (fieldAddrB none 1 (ptrTo b1) h fun v _=>some v) v8) && ((eU (load1 none v8 h fun v _=>some v) v9) && ((eU (fieldAddrB none 1 (ptrTo b3) h fun v _=>some v) v10) && ((eU (load1 none v10 h fun v _=>some v) v11) && true)))) (CallW prog 91 [v9,v11] h fun bN h=>
 Dy (bJ none [(0,1),(1,1)] [v12,bN] (aT [(.int .i64 0)] 2) fun cs => aF none cs 3 false fun o => some (o,sliceTo 2 2)) h fun bM h=>
 CallW prog 90 [bM] h fun bR h=>
 κ bR h)) := by kernel_rfl
theorem W4 (a0:Value) (h:Heap) (κ:KQ):aJ prog 97 [a0] h κ = (
 aF False (Value.cells a0).toList 103 false fun o0 => an False o0 h fun b1 h=>
 κ (Value.func (.func 134) (Array.mk []) (Array.mk [(ptrTo b1)])) h) := by kernel_rfl
def zM (a0 a1:Value) (h:Heap) (κ:KQ):Prop :=
 aM False a0 h fun v3 h=>
 fieldAddrB False 0 v3 h fun v4 h=>
 load1 False v4 h fun v5 h=>
 av False 1 v5 a1 h fun v6 h=>
 load1 False v6 h fun v7 h=>
 au False prog .andNot 3 true false v7 (.int .i64 1) h fun v8 h=>
 av False 1 v5 a1 h fun v9 h=>
 aG False 1 v9 v8 h fun v10 h=>
 κ (Value.tuple (Array.mk [(.bool true),(.int .i64 0)])) h
def zN (a0 a1:Value) (h:Heap) (κ:KQ):Prop :=
 aM False a0 h fun v11 h=>
 fieldAddrB False 0 v11 h fun v12 h=>
 load1 False v12 h fun bN h=>
 av False 1 bN a1 h fun bM h=>
 load1 False bM h fun bR h=>
 au False prog .or 3 true false bR (.int .i64 2) h fun v16 h=>
 av False 1 bN a1 h fun v17 h=>
 aG False 1 v17 v16 h fun cM h=>
 κ (Value.tuple (Array.mk [(.bool false),(.int .i64 0)])) h
theorem Qu (a0 a1:Value) (h:Heap) (κ:KQ):aJ prog 98 [a0,a1] h κ = (
 CallW prog 136 [a0,a1] h fun v0 h=>
 au False prog .neq 26 true false v0 (.int .i64 0) h fun v1 h=>
 az v1 (
 κ (Value.tuple (Array.mk [(.bool false),v0])) h) (
 CallW prog 99 [a0,a1,(.int .i64 1)] h fun v2 h=>
 az v2 (
 zM a0 a1 h κ) (
 zN a0 a1 h κ))) := by kernel_rfl
theorem W5 (a0 a1 a2:Value) (h:Heap) (κ:KQ):aJ prog 99 [a0,a1,a2] h κ = (
 CallW prog 136 [a0,a1] h fun v0 h=>
 au False prog .eql 26 true false v0 (.int .i64 0) h fun v1 h=>
 ag (ai v1 true) (fun K2=>
 K2 a0 h) h fun v3 h=>
 ag (ai v1 true) (fun K4=>
 aM False v3 h K4) h fun v5 h=>
 ag (ai v1 true) (fun K6=>
 fieldAddrB False 0 v5 h K6) h fun v7 h=>
 ag (ai v1 true) (fun K8=>
 load1 False v7 h K8) h fun v9 h=>
 ag (ai v1 true) (fun qT=>
 qT a1 h) h fun v11 h=>
 ag (ai v1 true) (fun oK=>
 av False 1 v9 v11 h oK) h fun bN h=>
 ag (ai v1 true) (fun sv=>
 load1 False bN h sv) h fun bR h=>
 ag (ai v1 true) (fun xI=>
 xI a2 h) h fun v17 h=>
 ag (ai v1 true) (fun Bw=>
 au False prog .and 3 false false bR v17 h Bw) h fun v19 h=>
 ag (ai v1 true) (fun J9=>
 au False prog .neq 3 true false v19 (.int .i64 0) h J9) h fun v21 h=>
 aW False v1 v21 (.bool false) h fun v22 h=>
 κ v22 h) := by kernel_rfl
def By (a1 a0 a2:Value) (h:Heap) (κ:KQ):Prop :=
 au False prog .lss 3 true false a1 (.int .i64 0) h fun v1 h=>
 ag (ai v1 false) (fun K2=>
 K2 a1 h) h fun v3 h=>
 ag (ai v1 false) (fun K4=>
 K4 a0 h) h fun v5 h=>
 ag (ai v1 false) (fun K6=>
 aM False v5 h K6) h fun v7 h=>
 ag (ai v1 false) (fun K8=>
 fieldAddrB False 0 v7 h K8) h fun v9 h=>
 ag (ai v1 false) (fun qT=>
 load1 False v9 h qT) h fun v11 h=>
 ag (ai v1 false) (fun oK=>
 bz False v11 h oK) h fun bN h=>
 ag (ai v1 false) (fun sv=>
 au False prog .geq 3 false false v3 bN h sv) h fun bR h=>
 aW False v1 (.bool true) bR h fun v16 h=>
 ag (ai v16 false) (fun R_=>
 R_ a2 h) h fun cM h=>
 ag (ai v16 false) (fun Hp=>
 au False prog .lss 3 true false cM (.int .i64 0) h Hp) h fun v20 h=>
 aW False v16 (.bool true) v20 h fun v21 h=>
 ag (ai v21 false) (fun K22=>
 K22 a2 h) h fun v23 h=>
 ag (ai v21 false) (fun Sa=>
 au False prog .geq 3 true false v23 (.int .i64 8) h Sa) h fun v25 h=>
 aW False v21 (.bool true) v25 h fun v26 h=>
 az v26 (
 κ (.int .i64 2) h) (
 κ (.int .i64 0) h)
theorem Sf (a0 a1 a2:Value) (h:Heap) (κ:KQ):aJ prog 100 [a0,a1,a2] h κ = (
 au False prog .eql 101 true false a0 (.pointer none) h fun v0 h=>
 az v0 (
 κ (.int .i64 1) h) (
 By a1 a0 a2 h κ)) := by kernel_rfl
theorem Sg (a0:Value) (h:Heap) (κ:KQ):aJ prog 101 [a0] h κ = (
 au False prog .eql 182 true false a0 (.pointer none) h fun v0 h=>
 az v0 (
 κ (.int .i64 0) h) (
 aM False a0 h fun v1 h=>
 fieldAddrB False 2 v1 h fun v2 h=>
 load1 False v2 h fun v3 h=>
 jG False v3 h fun v4 h=>
 κ v4 h)) := by kernel_rfl
def Bz (a0:Value) (h:Heap) (κ:KQ):Prop :=
 ay (some a0) h fun v1 h=>
 ay (aM none v1 h fun v _=>some v) h fun v2 h=>
 ay (fieldAddrB none 1 v2 h fun v _=>some v) h fun v3 h=>
 ay (load1 none v3 h fun v _=>some v) h fun v4 h=>
 ay (bz none v4 h fun v _=>some v) h fun v5 h=>
 ay (some a0) h fun v6 h=>
 ay (aM none v6 h fun v _=>some v) h fun v7 h=>
 ay (fieldAddrB none 0 v7 h fun v _=>some v) h fun v8 h=>
 ay (fieldAddrB none 0 v8 h fun v _=>some v) h fun v9 h=>
 ay (load1 none v9 h fun v _=>some v) h fun v10 h=>
 CallW prog 137 [v10] h fun v11 h=>
 cZ ((eU (some a0) v1) && ((eU (aM none v1 h fun v _=>some v) v2) && ((eU (fieldAddrB none 1 v2 h fun v _=>some v) v3) && ((eU (load1 none v3 h fun v _=>some v) v4) && ((eU (bz none v4 h fun v _=>some v) v5) && true))))) (ay (au none prog .sub 3 false false v5 v11 h fun v _=>some v) h fun v12 h=>
 κ v12 h)
theorem Sh (a0:Value) (h:Heap) (κ:KQ):aJ prog 102 [a0] h κ = (
 au False prog .eql 144 true false a0 (.pointer none) h fun v0 h=>
 az v0 (
 κ (.int .i64 0) h) (
 Bz a0 h κ)) := by kernel_rfl
def BA (v1:Value) (l4:List Value) (a0:Value) (N3:List Value→Heap→Prop) (v5:Value) (h:Heap):Prop :=
 av False 2 v1 (slot l4 23) h fun v6 h=>
 aI False 2 v6 h fun v7 h=>
 aF False [(.int .i64 0),(.int .i64 0)] 36 false fun o8 => an False o8 h fun b9 h=>
 aG False 2 (ptrTo b9) v7 h fun v10 h=>
 ay (some a0) h fun v11 h=>
 ay (aM none v11 h fun v _=>some v) h fun v12 h=>
 ay (fieldAddrB none 2 v12 h fun v _=>some v) h fun bN h=>
 ay (load1 none bN h fun v _=>some v) h fun bM h=>
 ay (aI none 2 (ptrTo b9) h fun v _=>some v) h fun bR h=>
 ay (c8 none prog 36 (.pointer none) false bM bR h fun v _=>some v) h fun v16 h=>
 ay (aM none v16 h fun v _=>some v) h fun v17 h=>
 ay (aI none 4 v17 h fun v _=>some v) h fun cM h=>
 Dy (aF none [(.int .i64 0),(.int .i64 0),(.slice none 0 0),(.int .i64 0)] 81 false fun o => some (o,ptrTo)) h fun v19 h=>
 aG False 4 v19 cM h fun v20 h=>
 fieldAddrB False 2 v19 h fun v21 h=>
 load1 False v21 h fun v22 h=>
 CallW prog 139 [v22] h fun v23 h=>
 fieldAddrB False 2 v19 h fun v24 h=>
 aG False 1 v24 v23 h fun v25 h=>
 aI False 4 v19 h fun v26 h=>
 bJ False [(0,4)] [v26] (aT [(.int .i64 0),(.int .i64 0),(.slice none 0 0),(.int .i64 0)] 1) fun aa8 => aF False aa8 81 false fun o27 => an False o27 h fun b28 h=>
 bG False 81 4 [(.int .i64 0),(.int .i64 0),(.slice none 0 0),(.int .i64 0)] false (slot l4 21) (sliceTo 1 1 b28) h fun v30 h=>
 au False prog .add 3 true false (slot l4 23) (.int .i64 1) h fun v31 h=>
 N3 [v5,v6,v7,(ptrTo b9),v11,v12,bN,bM,bR,v16,v17,cM,v19,v21,v22,v23,v24,(slot l4 21),v26,(sliceTo 1 1 b28),v30,v30,v31,v31] h
def BB (a0:Value) (h:Heap) (κ:KQ):Prop :=
 CallW prog 138 [a0] h fun v1 h=>
 bz False v1 h fun v2 h=>
 ej [undef,undef,undef,undef,undef,undef,undef,undef,undef,undef,undef,undef,undef,undef,undef,undef,undef,undef,undef,undef,undef,(.slice none 0 0),undef,(.int .i64 0)] h fun l4 h N3=>
 au False prog .lss 3 false false (slot l4 23) v2 h fun v5 h=>
 az v5 (
 BA v1 l4 a0 N3 v5 h) (
 κ (slot l4 21) h)
theorem Si (a0:Value) (h:Heap) (κ:KQ):aJ prog 103 [a0] h κ = (
 au False prog .eql 182 true false a0 (.pointer none) h fun v0 h=>
 az v0 (
 κ (.slice none 0 0) h) (
 BB a0 h κ)) := by kernel_rfl
def vE (l13:List Value) (a0:Value) (Oc:Nat) (Hr:List Value→Heap→Prop) (h:Heap) (κ:KQ):Prop :=
 au False prog .lss 3 false false (slot l13 11) a0 h fun bM h=>
 az bM (
 aM False (ptrTo Oc) h fun bR h=>
 fieldAddrB False 0 bR h fun v16 h=>
 CallW prog 146 [(Value.iface 240 v16),(Value.iface 3 (slot l13 11))] h fun v17 h=>
 au False prog .add 3 true false (slot l13 11) (.int .i64 1) h fun cM h=>
 Hr [bM,(slot l13 11),(slot l13 11),(ptrTo Oc),bR,v16,(Value.iface 240 v16),(slot l13 11),(Value.iface 3 (slot l13 11)),v17,cM,cM] h) (
 κ (Value.tuple (Array.mk [(ptrTo Oc),(.int .i64 0)])) h)
theorem J_ (a0:Value) (h:Heap) (κ:KQ):aJ prog 108 [a0] h κ = (
 au False prog .lss 3 true false a0 (.int .i64 0) h fun v0 h=>
 ag (ai v0 false) (fun K1=>
 K1 a0 h) h fun v2 h=>
 ag (ai v0 false) (fun K3=>
 au False prog .gtr 3 true false v2 (.int .i64 128) h K3) h fun v4 h=>
 aW False v0 (.bool true) v4 h fun v5 h=>
 az v5 (
 κ (Value.tuple (Array.mk [(.pointer none),(.int .i64 2)])) h) (
 NM False a0 a0 [(.bool false)] 4 h fun v8 h=>
 bJ False [(1,1)] [v8] [(.slice none 0 0),(.slice none 0 0)] fun Se=>
 aF False (Value.cells (Value.agg (Array.mk Se))).toList 225 false fun WT => an False WT h fun Oc h=>
 ej [undef,undef,undef,undef,undef,undef,undef,undef,undef,undef,undef,(.int .i64 0)] h fun l13 h Hr=>
 vE l13 a0 Oc Hr h κ)) := by kernel_rfl
theorem Ka (a0 a1:Value) (h:Heap) (κ:KQ):aJ prog 109 [a0,a1] h κ = (
 au False prog .lss 3 true false a0 (.int .i64 1) h fun v0 h=>
 ag (ai v0 false) (fun K1=>
 K1 a0 h) h fun v2 h=>
 ag (ai v0 false) (fun K3=>
 au False prog .gtr 3 true false v2 (.int .i64 64) h K3) h fun v4 h=>
 aW False v0 (.bool true) v4 h fun v5 h=>
 ag (ai v5 false) (fun K6=>
 K6 a1 h) h fun v7 h=>
 ag (ai v5 false) (fun K8=>
 au False prog .eql 144 true false v7 (.pointer none) h K8) h fun v9 h=>
 aW False v5 (.bool true) v9 h fun v10 h=>
 az v10 (
 κ (Value.tuple (Array.mk [(.pointer none),(.int .i64 2)])) h) (
 an False (.map [] 0) h fun su h=>
 bJ False [(0,1),(1,1),(2,1)] [a0,a1,(gL su)] [(.int .i64 0),(.pointer none),(Value.map none)] fun aa9=>
 aF False (Value.cells (Value.agg (Array.mk aa9))).toList 220 false fun o14 => an False o14 h fun Zq h=>
 κ (Value.tuple (Array.mk [(ptrTo Zq),(.int .i64 0)])) h)) := by kernel_rfl
def vF (b1:Nat) (h:Heap) (κ:KQ):Prop :=
 fieldAddrB False 0 (ptrTo b1) h fun bR h=>
 load1 False bR h fun v16 h=>
 CallW prog 149 [v16] h fun v17 h=>
 ag (ai v17 true) (fun Bw=>
 fieldAddrB False 1 (ptrTo b1) h Bw) h fun v19 h=>
 ag (ai v17 true) (fun J9=>
 load1 False v19 h J9) h fun v21 h=>
 ag (ai v17 true) (fun K22=>
 CallW prog 149 [v21] h K22) h fun v23 h=>
 aW False v17 v23 (.bool false) h fun v24 h=>
 az v24 (
 κ (.int .i64 2) h) (
 κ (.int .i64 (-1)) h)
def BC (b1:Nat) (h:Heap) (κ:KQ):Prop :=
 fieldAddrB False 0 (ptrTo b1) h fun v5 h=>
 load1 False v5 h fun v6 h=>
 CallW prog 149 [v6] h fun v7 h=>
 ag (ai v7 true) (fun K8=>
 fieldAddrB False 1 (ptrTo b1) h K8) h fun v9 h=>
 ag (ai v7 true) (fun qT=>
 load1 False v9 h qT) h fun v11 h=>
 ag (ai v7 true) (fun oK=>
 au False prog .eql 3 true false v11 (.int .i64 (-1)) h oK) h fun bN h=>
 aW False v7 bN (.bool false) h fun bM h=>
 az bM (
 κ (.int .i64 1) h) (
 vF b1 h κ)
theorem Sj (a0:Value) (h:Heap) (κ:KQ):aJ prog 112 [a0] h κ = (
 aF False (Value.cells a0).toList 36 false fun o0 => an False o0 h fun b1 h=>
 ay (aI none 2 (ptrTo b1) h fun v _=>some v) h fun v2 h=>
 CallW prog 148 [] h fun v3 h=>
 cZ ((eU (aI none 2 (ptrTo b1) h fun v _=>some v) v2) && true) (ay (au none prog .eql 36 false false v2 v3 h fun v _=>some v) h fun v4 h=>
 az v4 (
 κ (.int .i64 0) h) (
 BC b1 h κ))) := by kernel_rfl
theorem Sk (a0:Value) (h:Heap) (κ:KQ):aJ prog 113 [a0] h κ = (
 au False prog .geq 3 true false a0 (.int .i64 1) h fun v0 h=>
 ag (ai v0 true) (fun K1=>
 K1 a0 h) h fun v2 h=>
 ag (ai v0 true) (fun K3=>
 au False prog .leq 3 true false v2 (.int .i64 16) h K3) h fun v4 h=>
 aW False v0 v4 (.bool false) h fun v5 h=>
 κ v5 h) := by kernel_rfl
theorem Sm (a0:Value) (h:Heap) (κ:KQ):aJ prog 114 [a0] h κ = (
 aF False (Value.cells a0).toList 36 false fun o0 => an False o0 h fun b1 h=>
 aI False 2 (ptrTo b1) h fun v2 h=>
 CallW prog 151 [v2] h fun v3 h=>
 CallW prog 150 [v3] h fun v4 h=>
 κ v4 h) := by kernel_rfl
def BD (a0:Value) (Kb:List Value→Heap→Prop) (v22 v23 v24 v26 v28 v30 v32 ig iS j0 v39 v40 lH v44 v46 mL v50 lS v54 nK mA mP vD o9 v67 tM xJ v70:Value) (h:Heap):Prop :=
 ay (some a0) h fun xK h=>
 ay (aM none xK h fun v _=>some v) h fun v72 h=>
 ay (fieldAddrB none 7 v72 h fun v _=>some v) h fun FJ h=>
 ay (load1 none FJ h fun v _=>some v) h fun DB h=>
 ay (aM none DB h fun v _=>some v) h fun v75 h=>
 ay (fieldAddrB none 0 v75 h fun v _=>some v) h fun v76 h=>
 ay (load1 none v76 h fun v _=>some v) h fun v77 h=>
 ay (some a0) h fun v78 h=>
 ay (aM none v78 h fun v _=>some v) h fun v79 h=>
 ay (fieldAddrB none 14 v79 h fun v _=>some v) h fun v80 h=>
 ay (load1 none v80 h fun v _=>some v) h fun Dz h=>
 CallW prog 153 [v77,Dz] h fun v82 h=>
 ay (some v82) h fun Hl h=>
 ay (aq none 0 Hl h fun v _=>some v) h fun Sn h=>
 ay (aq none 1 Hl h fun v _=>some v) h fun v85 h=>
 cZ ((eU (aq none 1 Hl h fun v _=>some v) v85) && true) (aM False a0 h fun W6 h=>
 fieldAddrB False 18 W6 h fun v87 h=>
 load1 False v87 h fun Oe h=>
 bG False 3 1 [(.int .i64 0)] false Oe Sn h fun DA h=>
 aM False a0 h fun W7 h=>
 fieldAddrB False 18 W7 h fun v91 h=>
 aG False 1 v91 DA h fun v92 h=>
 aM False a0 h fun v93 h=>
 fieldAddrB False 15 v93 h fun W8 h=>
 load1 False W8 h fun NV h=>
 aM False a0 h fun NW h=>
 fieldAddrB False 16 NW h fun Qv h=>
 aG False 1 Qv NV h fun v98 h=>
 Kb [v22,v23,v24,v26,v28,v30,v32,ig,iS,j0,v39,v40,lH,v44,v46,mL,v50,lS,v54,nK,mA,mA,undef,undef,undef,mP,vD,o9,o9,undef,undef,undef,a0,v67,tM,xJ,v70,v70,xK,v72,FJ,DB,v75,v76,v77,v78,v79,v80,Dz,v82,Hl,Sn,v85,Sn,v85,a0,a0,W6,v87,Oe,Sn,DA,W7,v91,a0,a0,v93,W8,NV,NW,Qv] h)
def BE (a0:Value) (Kb:List Value→Heap→Prop) (v22 v23 v24 v26 v28 v30 v32 ig iS j0 v39 v40 lH v44 v46 mL v50 lS v54 nK mA mP vD o9:Value) (h:Heap) (κ:KQ):Prop :=
 aM False a0 h fun v67 h=>
 fieldAddrB False 15 v67 h fun tM h=>
 load1 False tM h fun xJ h=>
 au False prog .neq 3 true false xJ (.int .i64 0) h fun v70 h=>
 az v70 (
 BD a0 Kb v22 v23 v24 v26 v28 v30 v32 ig iS j0 v39 v40 lH v44 v46 mL v50 lS v54 nK mA mP vD o9 v67 tM xJ v70 h) (
 κ (Value.tuple (Array.mk [])) h)
def BF (v12 a0:Value) (Kb:List Value→Heap→Prop) (v22 v23 v24 v26 v28 v30 v32 ig iS j0 v39 v40 lH v44 v46 mL v50 lS v54 nK mA:Value) (h:Heap) (κ:KQ):Prop :=
 fieldAddrB False 4 v12 h fun mP h=>
 load1 False mP h fun vD h=>
 au False prog .eql 3 true false vD (.int .i64 0) h fun o9 h=>
 az o9 (
 aM False a0 h fun v64 h=>
 fieldAddrB False 16 v64 h fun qs h=>
 aG False 1 qs (.int .i64 1) h fun v66 h=>
 Kb [v22,v23,v24,v26,v28,v30,v32,ig,iS,j0,v39,v40,lH,v44,v46,mL,v50,lS,v54,nK,mA,mA,undef,undef,undef,mP,vD,o9,o9,a0,v64,qs,undef,undef,undef,undef,undef,undef,undef,undef,undef,undef,undef,undef,undef,undef,undef,undef,undef,undef,undef,undef,undef,undef,undef,undef,undef,undef,undef,undef,undef,undef,undef,undef,undef,undef,undef,undef,undef,undef,undef] h) (
 BE a0 Kb v22 v23 v24 v26 v28 v30 v32 ig iS j0 v39 v40 lH v44 v46 mL v50 lS v54 nK mA mP vD o9 h κ)
def BG (v17 v11 a0 v12:Value) (Kb:List Value→Heap→Prop) (h:Heap) (κ:KQ):Prop :=
 ay (some v17) h fun v22 h=>
 ay (iX none .not v22 h fun v _=>some v) h fun v23 h=>
 ay (some v23) h fun v24 h=>
 ag (ai v24 false) (fun N_=>
 ay (aI none 2 v11 h fun v _=>some v) h N_) h fun v26 h=>
 ag (ai v24 false) (fun J5=>
 ay (some a0) h J5) h fun v28 h=>
 ag (ai v24 false) (fun J6=>
 ay (aM none v28 h fun v _=>some v) h J6) h fun v30 h=>
 ag (ai v24 false) (fun Hq=>
 ay (fieldAddrB none 0 v30 h fun v _=>some v) h Hq) h fun v32 h=>
 ag (ai v24 false) (fun J7=>
 ay (fieldAddrB none 2 v32 h fun v _=>some v) h J7) h fun ig h=>
 ag (ai v24 false) (fun NY=>
 ay (aI none 2 ig h fun v _=>some v) h NY) h fun iS h=>
 ag (ai v24 false) (fun NZ=>
 ay (au none prog .neq 36 false false v26 iS h fun v _=>some v) h NZ) h fun j0 h=>
 ay (aW none v24 (.bool true) j0 h fun v _=>some v) h fun v39 h=>
 ay (some v39) h fun v40 h=>
 ag (ai v40 false) (fun Sb=>
 ay (fieldAddrB none 1 v12 h fun v _=>some v) h Sb) h fun lH h=>
 ag (ai v40 false) (fun Sc=>
 ay (load1 none lH h fun v _=>some v) h Sc) h fun v44 h=>
 ag (ai v40 false) (fun Sd=>
 ay (some a0) h Sd) h fun v46 h=>
 ag (ai v40 false) (fun K47=>
 ay (aM none v46 h fun v _=>some v) h K47) h fun mL h=>
 ag (ai v40 false) (fun K49=>
 ay (fieldAddrB none 0 mL h fun v _=>some v) h K49) h fun v50 h=>
 ag (ai v40 false) (fun K51=>
 ay (fieldAddrB none 1 v50 h fun v _=>some v) h K51) h fun lS h=>
 ag (ai v40 false) (fun K53=>
 ay (load1 none lS h fun v _=>some v) h K53) h fun v54 h=>
 ag (ai v40 false) (fun K55=>
 ay (au none prog .neq 3 false false v44 v54 h fun v _=>some v) h K55) h fun nK h=>
 ay (aW none v40 (.bool true) nK h fun v _=>some v) h fun mA h=>
 az mA (
 aM False a0 h fun v58 h=>
 fieldAddrB False 16 v58 h fun v59 h=>
 aG False 1 v59 (.int .i64 6) h fun v60 h=>
 Kb [v22,v23,v24,v26,v28,v30,v32,ig,iS,j0,v39,v40,lH,v44,v46,mL,v50,lS,v54,nK,mA,mA,a0,v58,v59,undef,undef,undef,undef,undef,undef,undef,undef,undef,undef,undef,undef,undef,undef,undef,undef,undef,undef,undef,undef,undef,undef,undef,undef,undef,undef,undef,undef,undef,undef,undef,undef,undef,undef,undef,undef,undef,undef,undef,undef,undef,undef,undef,undef,undef,undef] h) (
 BF v12 a0 Kb v22 v23 v24 v26 v28 v30 v32 ig iS j0 v39 v40 lH v44 v46 mL v50 lS v54 nK mA h κ)
def BH (a0:Value) (h:Heap) (κ:KQ):Prop :=
 ay (some a0) h fun Sp h=>
 ay (aM none Sp h fun v _=>some v) h fun Ee h=>
 ay (fieldAddrB none 7 Ee h fun v _=>some v) h fun Of h=>
 ay (load1 none Of h fun v _=>some v) h fun Ho h=>
 ay (aM none Ho h fun v _=>some v) h fun J1 h=>
 ay (fieldAddrB none 3 J1 h fun v _=>some v) h fun Bt h=>
 ay (load1 none Bt h fun v _=>some v) h fun v105 h=>
 ay (some a0) h fun JX h=>
 ay (aM none JX h fun v _=>some v) h fun v107 h=>
 ay (fieldAddrB none 8 v107 h fun v _=>some v) h fun Ec h=>
 ay (load1 none Ec h fun v _=>some v) h fun v109 h=>
 ay (some a0) h fun NN h=>
 ay (aM none NN h fun v _=>some v) h fun JY h=>
 ay (fieldAddrB none 9 JY h fun v _=>some v) h fun W9 h=>
 ay (load1 none W9 h fun v _=>some v) h fun R8 h=>
 CallW prog 154 [v105,v109,R8] h fun agb h=>
 κ (Value.tuple (Array.mk [])) h
theorem Sq (a0:Value) (h:Heap) (κ:KQ):aJ prog 115 [a0] h κ = (
 ay (some a0) h fun v0 h=>
 ay (aM none v0 h fun v _=>some v) h fun v1 h=>
 ay (fieldAddrB none 7 v1 h fun v _=>some v) h fun v2 h=>
 ay (load1 none v2 h fun v _=>some v) h fun v3 h=>
 ay (aM none v3 h fun v _=>some v) h fun v4 h=>
 ay (fieldAddrB none 0 v4 h fun v _=>some v) h fun v5 h=>
 ay (load1 none v5 h fun v _=>some v) h fun v6 h=>
 ay (some a0) h fun v7 h=>
 ay (aM none v7 h fun v _=>some v) h fun v8 h=>
 ay (fieldAddrB none 14 v8 h fun v _=>some v) h fun v9 h=>
 ay (load1 none v9 h fun v _=>some v) h fun v10 h=>
 Dy (aF none [(.int .i64 0),(.int .i64 0)] 36 false fun o => some (o,ptrTo)) h fun v11 h=>
 Dy (aF none [(.int .i64 0),(.int .i64 0),(.int .i64 0),(.int .i64 0),(.int .i64 0)] 83 false fun o => some (o,ptrTo)) h fun v12 h=>
 CallW prog 152 [v6,v10] h fun bN h=>
 ay (some bN) h fun bM h=>
 ay (aq none 0 bM h fun v _=>some v) h fun bR h=>
 ay (aq none 1 bM h fun v _=>some v) h fun v16 h=>
 ay (aq none 2 bM h fun v _=>some v) h fun v17 h=>
 aG False 2 v11 bR h fun cM h=>
 cZ ((eU (aq none 1 bM h fun v _=>some v) v16) && ((eU (aq none 2 bM h fun v _=>some v) v17) && true)) (aG False 5 v12 v16 h fun v19 h=>
 cZ ((eU (aq none 2 bM h fun v _=>some v) v17) && true) (dw (fun Kb=>
 BG v17 v11 a0 v12 Kb h κ) fun l21 h=>
 BH a0 h κ))) := by kernel_rfl
theorem Sr (h:Heap) (κ:KQ):aJ prog 116 [] h κ = (
 an False (.map [] 0) h fun b1 h=>
 bW False prog 3 (gL b1) (.int .i64 1) (Value.func (.func 155) (Array.mk []) (Array.mk [])) h fun v2 h=>
 bW False prog 3 (gL b1) (.int .i64 2) (Value.func (.func 156) (Array.mk []) (Array.mk [])) h fun v3 h=>
 bW False prog 3 (gL b1) (.int .i64 3) (Value.func (.func 157) (Array.mk []) (Array.mk [])) h fun v4 h=>
 κ (gL b1) h) := by kernel_rfl
theorem Kc (a0:Value) (h:Heap) (κ:KQ):aJ prog 117 [a0] h κ = (
 ay (some a0) h fun v0 h=>
 ay (aM none v0 h fun v _=>some v) h fun v1 h=>
 ay (fieldAddrB none 7 v1 h fun v _=>some v) h fun v2 h=>
 ay (load1 none v2 h fun v _=>some v) h fun v3 h=>
 ay (aM none v3 h fun v _=>some v) h fun v4 h=>
 ay (fieldAddrB none 1 v4 h fun v _=>some v) h fun v5 h=>
 ay (load1 none v5 h fun v _=>some v) h fun v6 h=>
 ay (some a0) h fun v7 h=>
 ay (aM none v7 h fun v _=>some v) h fun v8 h=>
 ay (fieldAddrB none 10 v8 h fun v _=>some v) h fun v9 h=>
 ay (load1 none v9 h fun v _=>some v) h fun v10 h=>
 ay (some a0) h fun v11 h=>
 ay (aM none v11 h fun v _=>some v) h fun v12 h=>
 ay (fieldAddrB none 8 v12 h fun v _=>some v) h fun bN h=>
 ay (load1 none bN h fun v _=>some v) h fun bM h=>
 CallW prog 158 [v6,v10,bM] h fun bR h=>
 CallW prog 159 [a0] h fun v16 h=>
 κ (Value.tuple (Array.mk [])) h) := by kernel_rfl
theorem Ss (a0:Value) (h:Heap) (κ:KQ):aJ prog 133 [a0] h κ = (
 au False prog .neq 3 false false a0 a0 h fun v0 h=>
 κ v0 h) := by kernel_rfl
theorem Kd (a0:Value) (h:Heap) (κ:KQ):aJ prog 135 [a0] h κ = (
 CallI prog "Len" a0 [] h fun v0 h=>
 au False prog .sub 3 true false v0 (.int .i64 1) h fun v1 h=>
 CallI prog "Swap" a0 [(.int .i64 0),v1] h fun v2 h=>
 CallW prog 172 [a0,(.int .i64 0),v1] h fun v3 h=>
 CallI prog "Pop" a0 [] h fun v4 h=>
 κ v4 h) := by kernel_rfl
def BI (a1 a0:Value) (h:Heap) (κ:KQ):Prop :=
 au False prog .lss 3 true false a1 (.int .i64 0) h fun v1 h=>
 ag (ai v1 false) (fun K2=>
 K2 a1 h) h fun v3 h=>
 ag (ai v1 false) (fun K4=>
 K4 a0 h) h fun v5 h=>
 ag (ai v1 false) (fun K6=>
 aM False v5 h K6) h fun v7 h=>
 ag (ai v1 false) (fun K8=>
 fieldAddrB False 0 v7 h K8) h fun v9 h=>
 ag (ai v1 false) (fun qT=>
 load1 False v9 h qT) h fun v11 h=>
 ag (ai v1 false) (fun oK=>
 bz False v11 h oK) h fun bN h=>
 ag (ai v1 false) (fun sv=>
 au False prog .geq 3 false false v3 bN h sv) h fun bR h=>
 aW False v1 (.bool true) bR h fun v16 h=>
 az v16 (
 κ (.int .i64 2) h) (
 κ (.int .i64 0) h)
theorem St (a0 a1:Value) (h:Heap) (κ:KQ):aJ prog 136 [a0,a1] h κ = (
 au False prog .eql 102 true false a0 (.pointer none) h fun v0 h=>
 az v0 (
 κ (.int .i64 1) h) (
 BI a1 a0 h κ)) := by kernel_rfl
theorem Su (a0:Value) (h:Heap) (κ:KQ):aJ prog 137 [a0] h κ = (
 bz False a0 h fun v0 h=>
 κ v0 h) := by kernel_rfl
theorem Sv (a0:Value) (h:Heap) (κ:KQ):aJ prog 138 [a0] h κ = (
 aM False a0 h fun v0 h=>
 fieldAddrB False 2 v0 h fun v1 h=>
 load1 False v1 h fun v2 h=>
 CallW prog 174 [v2] h fun v3 h=>
 CallW prog 173 [v3,(Value.func (.func 92) (Array.mk []) (Array.mk []))] h fun v4 h=>
 κ v4 h) := by kernel_rfl
theorem Ke (a0 a1:Value) (h:Heap) (κ:KQ):aJ prog 146 [a0,a1] h κ = (
 CallI prog "Push" a0 [a1] h fun v0 h=>
 CallI prog "Len" a0 [] h fun v1 h=>
 au False prog .sub 3 true false v1 (.int .i64 1) h fun v2 h=>
 CallW prog 199 [a0,v2] h fun v3 h=>
 κ (Value.tuple (Array.mk [])) h) := by kernel_rfl
theorem Sw (h:Heap) (κ:KQ):aJ prog 148 [] h κ = (
 aF False [(.int .i64 0),(.int .i64 0)] 36 false fun o0 => an False o0 h fun b1 h=>
 bJ False [(0,1),(1,1)] [(.int .i64 (-1)),(.int .i64 (-1))] [(.int .i64 0),(.int .i64 0)] fun Wi=>
 aG False 2 (ptrTo b1) (Value.agg (Array.mk Wi)) h fun v3 h=>
 aI False 2 (ptrTo b1) h fun v4 _ => κ v4 h) := by kernel_rfl
theorem Sx (a0:Value) (h:Heap) (κ:KQ):aJ prog 149 [a0] h κ = (
 au False prog .geq 3 true false a0 (.int .i64 0) h fun v0 h=>
 ag (ai v0 true) (fun K1=>
 K1 a0 h) h fun v2 h=>
 ag (ai v0 true) (fun K3=>
 au False prog .lss 3 true false v2 (.int .i64 100) h K3) h fun v4 h=>
 aW False v0 v4 (.bool false) h fun v5 h=>
 κ v5 h) := by kernel_rfl
def BJ (v0:Value) (l3:List Value) (N2:List Value→Heap→Prop) (v4:Value) (h:Heap):Prop :=
 av False 1 v0 (slot l3 12) h fun v5 h=>
 load1 False v5 h fun v6 h=>
 jI False .u32 v6 h fun v7 h=>
 au False prog .xor 142 false false (slot l3 10) v7 h fun v8 h=>
 au False prog .mul 142 true false v8 (Value.int .u32 (16777619)) h fun v9 h=>
 au False prog .add 3 true false (slot l3 12) (.int .i64 1) h fun v10 h=>
 N2 [v4,v5,v6,v6,(slot l3 10),v6,v7,v8,v8,v9,v9,v10,v10] h
theorem Sy (a0:Value) (h:Heap) (κ:KQ):aJ prog 150 [a0] h κ = (
 mV False 5 a0 h fun v0 h=>
 bz False v0 h fun v1 h=>
 ej [undef,undef,undef,undef,undef,undef,undef,undef,undef,undef,(Value.int .u32 (2166136261)),undef,(.int .i64 0)] h fun l3 h N2=>
 au False prog .lss 3 false false (slot l3 12) v1 h fun v4 h=>
 az v4 (
 BJ v0 l3 N2 v4 h) (
 κ (slot l3 10) h)) := by kernel_rfl
def BK (b1:Nat) (h:Heap) (κ:KQ):Prop :=
 ay (fieldAddrB none 0 (ptrTo b1) h fun v _=>some v) h fun v11 h=>
 ay (load1 none v11 h fun v _=>some v) h fun v12 h=>
 ay (fieldAddrB none 1 (ptrTo b1) h fun v _=>some v) h fun bN h=>
 ay (load1 none bN h fun v _=>some v) h fun bM h=>
 CallW prog 200 [v12] h fun bR h=>
 cZ ((eU (fieldAddrB none 1 (ptrTo b1) h fun v _=>some v) bN) && ((eU (load1 none bN h fun v _=>some v) bM) && true)) (ay (au none prog .add 9 true false (Value.string (ByteArray.mk (Array.mk [116]))) bR h fun v _=>some v) h fun v16 h=>
 ay (au none prog .add 9 true false v16 (Value.string (ByteArray.mk (Array.mk [46,114]))) h fun v _=>some v) h fun v17 h=>
 CallW prog 200 [bM] h fun cM h=>
 cZ ((eU (au none prog .add 9 true false (Value.string (ByteArray.mk (Array.mk [116]))) bR h fun v _=>some v) v16) && ((eU (au none prog .add 9 true false v16 (Value.string (ByteArray.mk (Array.mk [46,114]))) h fun v _=>some v) v17) && true)) (ay (au none prog .add 9 false false v17 cM h fun v _=>some v) h fun v19 h=>
 κ v19 h))
def vG (v3:Value) (b1:Nat) (h:Heap) (κ:KQ):Prop :=
 au False prog .eql 3 true false v3 (.int .i64 1) h fun v5 h=>
 az v5 (
 fieldAddrB False 0 (ptrTo b1) h fun v6 h=>
 load1 False v6 h fun v7 h=>
 CallW prog 200 [v7] h fun v8 h=>
 au False prog .add 9 true false (Value.string (ByteArray.mk (Array.mk [116]))) v8 h fun v9 h=>
 κ v9 h) (
 au False prog .eql 3 true false v3 (.int .i64 2) h fun v10 h=>
 az v10 (
 BK b1 h κ) (
 κ (Value.string (ByteArray.mk (Array.mk [63]))) h))
theorem Sz (a0:Value) (h:Heap) (κ:KQ):aJ prog 151 [a0] h κ = (
 aF False (Value.cells a0).toList 36 false fun o0 => an False o0 h fun b1 h=>
 aI False 2 (ptrTo b1) h fun v2 h=>
 CallW prog 112 [v2] h fun v3 h=>
 au False prog .eql 3 true false v3 (.int .i64 0) h fun v4 h=>
 az v4 (
 κ (Value.string (ByteArray.mk (Array.mk [100,98]))) h) (
 vG v3 b1 h κ)) := by kernel_rfl
theorem SA (a0 a1:Value) (h:Heap) (κ:KQ):aJ prog 152 [a0,a1] h κ = (
 aF False [(.int .i64 0),(.int .i64 0)] 36 false fun o0 => an False o0 h fun b1 h=>
 aF False [(.int .i64 0),(.int .i64 0),(.int .i64 0),(.int .i64 0),(.int .i64 0)] 83 false fun o2 => an False o2 h fun b3 h=>
 CallW prog 201 [a0,a1] h fun v4 h=>
 CallW prog 202 [v4,a1] h fun v5 h=>
 aq False 0 v5 h fun v6 h=>
 aq False 1 v5 h fun v7 h=>
 aq False 2 v5 h fun v8 h=>
 aG False 2 (ptrTo b1) v6 h fun v9 h=>
 aG False 5 (ptrTo b3) v7 h fun v10 h=>
 aI False 2 (ptrTo b1) h fun v11 _ => aI False 5 (ptrTo b3) h fun v12 _ => κ (Value.tuple (Array.mk [v11,v12,v8])) h) := by kernel_rfl
theorem SB (a0 a1:Value) (h:Heap) (κ:KQ):aJ prog 153 [a0,a1] h κ = (
 CallW prog 201 [a0,a1] h fun v0 h=>
 au False prog .eql 182 true false v0 (.pointer none) h fun v1 h=>
 az v1 (
 CallW prog 203 [a0] h fun v2 h=>
 κ (Value.tuple (Array.mk [(.slice none 0 0),v2])) h) (
 CallW prog 204 [v0,a1] h fun v3 h=>
 aq False 0 v3 h fun v4 h=>
 aq False 1 v3 h fun v5 h=>
 κ (Value.tuple (Array.mk [v4,v5])) h)) := by kernel_rfl
def BL (v1 a0:Value) (N2:List Value→Heap→Prop) (h:Heap):Prop :=
 au False prog .geq 3 true false v1 (.int .i64 0) h fun v4 h=>
 az v4 (
 aM False a0 h fun v5 h=>
 fieldAddrB False 1 v5 h fun v6 h=>
 CallW prog 206 [(Value.iface 217 v6),v1] h fun v7 h=>
 N2 [v1,v4,a0,v5,v6,(Value.iface 217 v6),v1,v7] h) (
 N2 [v1,v4,undef,undef,undef,undef,undef,undef] h)
theorem SC (a0 a1 a2:Value) (h:Heap) (κ:KQ):aJ prog 154 [a0,a1,a2] h κ = (
 au False prog .eql 103 true false a0 (.pointer none) h fun v0 h=>
 az v0 (
 κ (.bool false) h) (
 CallW prog 205 [a0,a1,a2] h fun v1 h=>
 dw (fun N2=>
 BL v1 a0 N2 h) fun l3 h=>
 au False prog .geq 3 true false v1 (.int .i64 0) h fun v8 h=>
 κ v8 h)) := by kernel_rfl
def BM (a0 v19:Value) (Og:List Value→Heap→Prop) (v20:Value) (h:Heap):Prop :=
 aM False a0 h fun v23 h=>
 fieldAddrB False 7 v23 h fun v24 h=>
 load1 False v24 h fun v25 h=>
 aM False v25 h fun v26 h=>
 fieldAddrB False 0 v26 h fun v27 h=>
 load1 False v27 h fun v28 h=>
 CallW prog 152 [v28,v19] h fun nJ h=>
 aq False 0 nJ h fun v30 h=>
 aq False 1 nJ h fun v31 h=>
 aq False 2 nJ h fun v32 h=>
 aF False [(.int .i64 0),(.int .i64 0)] 36 false fun o33 => an False o33 h fun WG h=>
 aF False [(.int .i64 0),(.int .i64 0),(.int .i64 0),(.int .i64 0),(.int .i64 0)] 83 false fun o35 => an False o35 h fun b36 h=>
 aG False 2 (ptrTo WG) v30 h fun v37 h=>
 aG False 5 (ptrTo b36) v31 h fun j0 h=>
 fieldAddrB False 2 (ptrTo b36) h fun v39 h=>
 load1 False v39 h fun v40 h=>
 Og [v20,a0,v23,v24,v25,v26,v27,v28,v19,nJ,nJ,v30,v31,v32,(ptrTo WG),(ptrTo b36),v32,v39,v40,v40] h
def vH (nK:Value) (Kf:List Value) (a0 v45:Value) (Zr:List Value→Heap→Prop) (h:Heap):Prop :=
 av False 5 nK (slot Kf 29) h fun o9 h=>
 aI False 5 o9 h fun v64 h=>
 aF False [(.int .i64 0),(.int .i64 0),(.int .i64 0),(.int .i64 0),(.int .i64 0)] 83 false fun o65 => an False o65 h fun MO h=>
 aG False 5 (ptrTo MO) v64 h fun v67 h=>
 ay (fieldAddrB none 1 (ptrTo MO) h fun v _=>some v) h fun tM h=>
 ay (load1 none tM h fun v _=>some v) h fun xJ h=>
 ay (au none prog .lss 3 true false xJ (.int .i64 0) h fun v _=>some v) h fun v70 h=>
 ay (some v70) h fun xK h=>
 ag (ai xK true) (fun K72=>
 ay (fieldAddrB none 1 (ptrTo MO) h fun v _=>some v) h K72) h fun FJ h=>
 ag (ai xK true) (fun K74=>
 ay (load1 none FJ h fun v _=>some v) h K74) h fun v75 h=>
 ag (ai xK true) (fun K76=>
 ay (some a0) h K76) h fun v77 h=>
 ag (ai xK true) (fun K78=>
 ay (aM none v77 h fun v _=>some v) h K78) h fun v79 h=>
 ag (ai xK true) (fun K80=>
 ay (fieldAddrB none 0 v79 h fun v _=>some v) h K80) h fun Dz h=>
 ag (ai xK true) (fun K82=>
 ay (fieldAddrB none 1 Dz h fun v _=>some v) h K82) h fun Hl h=>
 ag (ai xK true) (fun K84=>
 ay (load1 none Hl h fun v _=>some v) h K84) h fun v85 h=>
 ag (ai xK true) (fun K86=>
 ay (au none prog .neq 3 false false v75 v85 h fun v _=>some v) h K86) h fun v87 h=>
 ay (aW none xK v87 (.bool false) h fun v _=>some v) h fun Oe h=>
 ay (some Oe) h fun DA h=>
 ag (ai DA true) (fun K90=>
 ay (fieldAddrB none 2 (ptrTo MO) h fun v _=>some v) h K90) h fun v91 h=>
 ag (ai DA true) (fun K92=>
 ay (load1 none v91 h fun v _=>some v) h K92) h fun v93 h=>
 ag (ai DA true) (fun K94=>
 ay (some v45) h K94) h fun NV h=>
 ag (ai DA true) (fun K96=>
 CallW prog 210 [v93,NV] h K96) h fun Qv h=>
 ag (ai DA true) (fun K98=>
 ay (iX none .not Qv h fun v _=>some v) h K98) h fun Sp h=>
 ay (aW none DA Sp (.bool false) h fun v _=>some v) h fun Ee h=>
 az Ee (
 fieldAddrB False 0 (ptrTo MO) h fun Of h=>
 load1 False Of h fun Ho h=>
 CallW prog 211 [a0,Ho] h fun J1 h=>
 Zr [o9,v64,(ptrTo MO),tM,xJ,v70,xK,FJ,v75,v77,v79,Dz,Hl,v85,v87,Oe,DA,v91,v93,NV,Qv,Sp,Ee,a0,Of,Ho,J1] h) (
 Zr [o9,v64,(ptrTo MO),tM,xJ,v70,xK,FJ,v75,v77,v79,Dz,Hl,v85,v87,Oe,DA,v91,v93,NV,Qv,Sp,Ee,(slot Kf 24),(slot Kf 25),(slot Kf 26),(slot Kf 27)] h)
def vI (a0 v45:Value) (Hs:List Value→Heap→Prop) (xb:List Value) (zD:Value) (h:Heap):Prop :=
 ay (some a0) h fun W_ h=>
 ay (aM none W_ h fun v _=>some v) h fun v117 h=>
 ay (fieldAddrB none 7 v117 h fun v _=>some v) h fun Hi h=>
 ay (load1 none Hi h fun v _=>some v) h fun Xa h=>
 ay (aM none Xa h fun v _=>some v) h fun NO h=>
 ay (fieldAddrB none 0 NO h fun v _=>some v) h fun Xb h=>
 ay (load1 none Xb h fun v _=>some v) h fun NP h=>
 ay (some a0) h fun Hj h=>
 ay (aM none Hj h fun v _=>some v) h fun v124 h=>
 ay (fieldAddrB none 0 v124 h fun v _=>some v) h fun NQ h=>
 ay (fieldAddrB none 2 NQ h fun v _=>some v) h fun Xc h=>
 ay (aI none 2 Xc h fun v _=>some v) h fun v127 h=>
 ay (some a0) h fun Bu h=>
 ay (aM none Bu h fun v _=>some v) h fun Xd h=>
 ay (fieldAddrB none 0 Xd h fun v _=>some v) h fun v130 h=>
 ay (fieldAddrB none 1 v130 h fun v _=>some v) h fun v131 h=>
 ay (load1 none v131 h fun v _=>some v) h fun NR h=>
 ay (some v45) h fun Xe h=>
 CallW prog 213 [NP,v127,NR,Xe] h fun NS h=>
 ay (some NS) h fun Eh h=>
 ay (aq none 0 Eh h fun v _=>some v) h fun NT h=>
 ay (aq none 1 Eh h fun v _=>some v) h fun Bv h=>
 ay (aq none 2 Eh h fun v _=>some v) h fun v138 h=>
 cZ ((eU (aq none 1 Eh h fun v _=>some v) Bv) && ((eU (aq none 2 Eh h fun v _=>some v) v138) && true)) (cZ ((eU (aq none 2 Eh h fun v _=>some v) v138) && true) (Hs [(slot xb 19),zD,W_,v117,Hi,Xa,NO,Xb,NP,Hj,v124,NQ,Xc,v127,Bu,Xd,v130,v131,NR,Xe,NS,Eh,NT,Bv,v138,NT,undef,undef,undef,undef,undef,undef,undef,undef,undef,undef,undef,undef,undef,Bv,v138] h))
def BN (a0 v19 v45:Value) (Hs:List Value→Heap→Prop) (xb:List Value) (zD:Value) (h:Heap):Prop :=
 aM False a0 h fun v139 h=>
 fieldAddrB False 7 v139 h fun Xf h=>
 load1 False Xf h fun v141 h=>
 aM False v141 h fun Xg h=>
 fieldAddrB False 0 Xg h fun v143 h=>
 load1 False v143 h fun NU h=>
 CallW prog 214 [NU,v19,v45] h fun v145 h=>
 aq False 0 v145 h fun v146 h=>
 aq False 1 v145 h fun Xh h=>
 Hs [(slot xb 19),zD,undef,undef,undef,undef,undef,undef,undef,undef,undef,undef,undef,undef,undef,undef,undef,undef,undef,undef,undef,undef,undef,undef,undef,v19,a0,v139,Xf,v141,Xg,v143,NU,v19,v45,v145,v145,v146,Xh,v146,Xh] h
def qW (xL:List Value) (a0:Value) (h:Heap) (κ:KQ):Prop :=
 az (slot xL 39) (
 aM False a0 h fun abe h=>
 fieldAddrB False 16 abe h fun v157 h=>
 aG False 1 v157 (.int .i64 1) h fun agk h=>
 κ (Value.tuple (Array.mk [])) h) (
 CallW prog 215 [a0,(slot xL 25)] h fun v159 h=>
 κ (Value.tuple (Array.mk [])) h)
def qX (xL:List Value) (a0:Value) (h:Heap) (κ:KQ):Prop :=
 au False prog .neq 26 true false (slot xL 40) (.int .i64 0) h fun v152 h=>
 az v152 (
 aM False a0 h fun abf h=>
 fieldAddrB False 16 abf h fun v154 h=>
 aG False 1 v154 (.int .i64 6) h fun agl h=>
 κ (Value.tuple (Array.mk [])) h) (
 qW xL a0 h κ)
def qY (xL:List Value) (a0:Value) (h:Heap) (κ:KQ):Prop :=
 au False prog .eql 26 true false (slot xL 40) (.int .i64 8) h fun v148 h=>
 az v148 (
 aM False a0 h fun abg h=>
 fieldAddrB False 16 abg h fun abh h=>
 aG False 1 abh (.int .i64 5) h fun agm h=>
 κ (Value.tuple (Array.mk [])) h) (
 qX xL a0 h κ)
def vJ (a0:Value) (xb:List Value) (v45 v19:Value) (h:Heap) (κ:KQ):Prop :=
 aM False a0 h fun v105 h=>
 fieldAddrB False 0 v105 h fun JX h=>
 fieldAddrB False 4 JX h fun v107 h=>
 load1 False v107 h fun Ec h=>
 CallW prog 212 [(slot xb 19),Ec] h fun v109 h=>
 az v109 (
 aM False a0 h fun NN h=>
 fieldAddrB False 16 NN h fun JY h=>
 aG False 1 JY (.int .i64 1) h fun W9 h=>
 κ (Value.tuple (Array.mk [])) h) (
 dw (fun Hs=>
 au False prog .eql 37 true false (slot xb 19) (.int .i64 0) h fun zD h=>
 az zD (
 vI a0 v45 Hs xb zD h) (
 BN a0 v19 v45 Hs xb zD h)) fun xL h=>
 qY xL a0 h κ)
def nL (Kf:List Value) (mA nK a0 v45:Value) (N58:List Value→Heap→Prop) (xb:List Value) (v19:Value) (h:Heap) (κ:KQ):Prop :=
 au False prog .lss 3 false false (slot Kf 29) mA h fun v60 h=>
 az v60 (
 dw (fun Zr=>
 vH nK Kf a0 v45 Zr h) fun sx h=>
 au False prog .add 3 true false (slot Kf 29) (.int .i64 1) h fun Bt h=>
 N58 [v60,(slot sx 0),(slot sx 1),(slot sx 2),(slot sx 3),(slot sx 4),(slot sx 5),(slot sx 6),(slot sx 7),(slot sx 8),(slot sx 9),(slot sx 10),(slot sx 11),(slot sx 12),(slot sx 13),(slot sx 14),(slot sx 15),(slot sx 16),(slot sx 17),(slot sx 18),(slot sx 19),(slot sx 20),(slot sx 21),(slot sx 22),(slot sx 23),(slot sx 24),(slot sx 25),(slot sx 26),Bt,Bt] h) (
 vJ a0 xb v45 v19 h κ)
def nM (a0:Value) (xb:List Value) (v19:Value) (h:Heap) (κ:KQ):Prop :=
 aM False a0 h fun v41 h=>
 fieldAddrB False 0 v41 h fun lH h=>
 fieldAddrB False 4 lH h fun qS h=>
 load1 False qS h fun v44 h=>
 CallW prog 208 [(slot xb 19),v44] h fun v45 h=>
 ay (some a0) h fun v46 h=>
 ay (aM none v46 h fun v _=>some v) h fun rO h=>
 ay (fieldAddrB none 7 rO h fun v _=>some v) h fun mL h=>
 ay (load1 none mL h fun v _=>some v) h fun v49 h=>
 ay (some a0) h fun v50 h=>
 ay (aM none v50 h fun v _=>some v) h fun v51 h=>
 ay (fieldAddrB none 0 v51 h fun v _=>some v) h fun lS h=>
 ay (fieldAddrB none 2 lS h fun v _=>some v) h fun v53 h=>
 ay (aI none 2 v53 h fun v _=>some v) h fun v54 h=>
 ay (some (.int .i64 0)) h fun v55 h=>
 CallW prog 209 [v49,v54] h fun nK h=>
 cZ ((eU (some (.int .i64 0)) v55) && true) (ay (bz none nK h fun v _=>some v) h fun mA h=>
 ej [undef,undef,undef,undef,undef,undef,undef,undef,undef,undef,undef,undef,undef,undef,undef,undef,undef,undef,undef,undef,undef,undef,undef,undef,undef,undef,undef,undef,undef,v55] h fun Kf h N58=>
 nL Kf mA nK a0 v45 N58 xb v19 h κ)
theorem Kg (a0:Value) (h:Heap) (κ:KQ):aJ prog 155 [a0] h κ = (
 ay (some a0) h fun v0 h=>
 ay (aM none v0 h fun v _=>some v) h fun v1 h=>
 ay (fieldAddrB none 7 v1 h fun v _=>some v) h fun v2 h=>
 ay (load1 none v2 h fun v _=>some v) h fun v3 h=>
 ay (aM none v3 h fun v _=>some v) h fun v4 h=>
 ay (fieldAddrB none 0 v4 h fun v _=>some v) h fun v5 h=>
 ay (load1 none v5 h fun v _=>some v) h fun v6 h=>
 ay (some a0) h fun v7 h=>
 ay (aM none v7 h fun v _=>some v) h fun v8 h=>
 ay (fieldAddrB none 0 v8 h fun v _=>some v) h fun v9 h=>
 ay (fieldAddrB none 2 v9 h fun v _=>some v) h fun v10 h=>
 ay (aI none 2 v10 h fun v _=>some v) h fun v11 h=>
 ay (some a0) h fun v12 h=>
 ay (aM none v12 h fun v _=>some v) h fun bN h=>
 ay (fieldAddrB none 0 bN h fun v _=>some v) h fun bM h=>
 ay (fieldAddrB none 1 bM h fun v _=>some v) h fun bR h=>
 ay (load1 none bR h fun v _=>some v) h fun v16 h=>
 CallW prog 207 [v6,v11,v16] h fun v17 h=>
 ay (some v17) h fun cM h=>
 ay (aq none 0 cM h fun v _=>some v) h fun v19 h=>
 ay (aq none 1 cM h fun v _=>some v) h fun v20 h=>
 cZ ((eU (aq none 1 cM h fun v _=>some v) v20) && true) (dw (fun Og=>
 az v20 (
 BM a0 v19 Og v20 h) (
 Og [v20,undef,undef,undef,undef,undef,undef,undef,undef,undef,undef,undef,undef,undef,undef,undef,undef,undef,undef,(.int .i64 0)] h)) fun xb h=>
 nM a0 xb v19 h κ)) := by kernel_rfl
theorem SD (a0:Value) (h:Heap) (κ:KQ):aJ prog 156 [a0] h κ = (
 ay (some a0) h fun v0 h=>
 ay (aM none v0 h fun v _=>some v) h fun v1 h=>
 ay (fieldAddrB none 7 v1 h fun v _=>some v) h fun v2 h=>
 ay (load1 none v2 h fun v _=>some v) h fun v3 h=>
 ay (aM none v3 h fun v _=>some v) h fun v4 h=>
 ay (fieldAddrB none 0 v4 h fun v _=>some v) h fun v5 h=>
 ay (load1 none v5 h fun v _=>some v) h fun v6 h=>
 ay (some a0) h fun v7 h=>
 ay (aM none v7 h fun v _=>some v) h fun v8 h=>
 ay (fieldAddrB none 0 v8 h fun v _=>some v) h fun v9 h=>
 ay (fieldAddrB none 2 v9 h fun v _=>some v) h fun v10 h=>
 ay (aI none 2 v10 h fun v _=>some v) h fun v11 h=>
 ay (some a0) h fun v12 h=>
 ay (aM none v12 h fun v _=>some v) h fun bN h=>
 ay (fieldAddrB none 0 bN h fun v _=>some v) h fun bM h=>
 ay (fieldAddrB none 1 bM h fun v _=>some v) h fun bR h=>
 ay (load1 none bR h fun v _=>some v) h fun v16 h=>
 CallW prog 207 [v6,v11,v16] h fun v17 h=>
 ay (some v17) h fun cM h=>
 ay (aq none 0 cM h fun v _=>some v) h fun v19 h=>
 ay (aq none 1 cM h fun v _=>some v) h fun v20 h=>
 cZ ((eU (aq none 1 cM h fun v _=>some v) v20) && true) (iX False .not v20 h fun v21 h=>
 az v21 (
 aM False a0 h fun v22 h=>
 fieldAddrB False 16 v22 h fun v23 h=>
 aG False 1 v23 (.int .i64 6) h fun v24 h=>
 κ (Value.tuple (Array.mk [])) h) (
 CallW prog 211 [a0,v19] h fun v25 h=>
 aM False a0 h fun v26 h=>
 fieldAddrB False 16 v26 h fun v27 h=>
 aG False 1 v27 (.int .i64 1) h fun v28 h=>
 κ (Value.tuple (Array.mk [])) h))) := by kernel_rfl
def BO (a0 a1 a2:Value) (h:Heap) (κ:KQ):Prop :=
 aM False a0 h fun v2 h=>
 fieldAddrB False 0 v2 h fun v3 h=>
 load1 False v3 h fun v4 h=>
 av False 1 v4 a1 h fun v5 h=>
 load1 False v5 h fun v6 h=>
 au False prog .eql 176 true false v6 (.pointer none) h fun v7 h=>
 ag (ai v7 false) (fun K8=>
 K8 v6 h) h fun v9 h=>
 ag (ai v7 false) (fun qT=>
 aM False v9 h qT) h fun v11 h=>
 ag (ai v7 false) (fun oK=>
 fieldAddrB False 0 v11 h oK) h fun bN h=>
 ag (ai v7 false) (fun sv=>
 load1 False bN h sv) h fun bR h=>
 ag (ai v7 false) (fun xI=>
 xI a2 h) h fun v17 h=>
 ag (ai v7 false) (fun Bw=>
 au False prog .neq 3 false false bR v17 h Bw) h fun v19 h=>
 aW False v7 (.bool true) v19 h fun v20 h=>
 az v20 (
 κ (.int .i64 6) h) (
 aM False a0 h fun v21 h=>
 fieldAddrB False 0 v21 h fun v22 h=>
 load1 False v22 h fun v23 h=>
 av False 1 v23 a1 h fun v24 h=>
 aG False 1 v24 (.pointer none) h fun v25 h=>
 κ (.int .i64 0) h)
theorem SE (a0 a1 a2:Value) (h:Heap) (κ:KQ):aJ prog 158 [a0,a1,a2] h κ = (
 CallW prog 100 [a0,a1,a2] h fun v0 h=>
 au False prog .neq 26 true false v0 (.int .i64 0) h fun v1 h=>
 az v1 (
 κ v0 h) (
 BO a0 a1 a2 h κ)) := by kernel_rfl
def BP (a0:Value) (h:Heap) (κ:KQ):Prop :=
 aM False a0 h fun v10 h=>
 fieldAddrB False 17 v10 h fun v11 h=>
 aG False 1 v11 (.bool true) h fun v12 h=>
 ay (some a0) h fun bN h=>
 ay (aM none bN h fun v _=>some v) h fun bM h=>
 ay (fieldAddrB none 7 bM h fun v _=>some v) h fun bR h=>
 ay (load1 none bR h fun v _=>some v) h fun v16 h=>
 ay (aM none v16 h fun v _=>some v) h fun v17 h=>
 ay (fieldAddrB none 4 v17 h fun v _=>some v) h fun cM h=>
 ay (load1 none cM h fun v _=>some v) h fun v19 h=>
 ay (some a0) h fun v20 h=>
 ay (aM none v20 h fun v _=>some v) h fun v21 h=>
 ay (fieldAddrB none 8 v21 h fun v _=>some v) h fun v22 h=>
 ay (load1 none v22 h fun v _=>some v) h fun v23 h=>
 ay (av none 1 v19 v23 h fun v _=>some v) h fun v24 h=>
 aG False 1 v24 (.pointer none) h fun v25 h=>
 κ (Value.tuple (Array.mk [])) h
def vK (a0:Value) (h:Heap) (κ:KQ):Prop :=
 aM False a0 h fun v6 h=>
 fieldAddrB False 16 v6 h fun v7 h=>
 load1 False v7 h fun v8 h=>
 au False prog .neq 3 true false v8 (.int .i64 0) h fun v9 h=>
 az v9 (
 BP a0 h κ) (
 CallW prog 45 [a0,(.int .i64 5),(Value.func (.func 218) (Array.mk [a0]) (Array.mk []))] h fun v26 h=>
 κ (Value.tuple (Array.mk [])) h)
theorem Kh (a0:Value) (h:Heap) (κ:KQ):aJ prog 159 [a0] h κ = (
 aM False a0 h fun v0 h=>
 fieldAddrB False 18 v0 h fun v1 h=>
 load1 False v1 h fun v2 h=>
 bz False v2 h fun v3 h=>
 au False prog .gtr 3 true false v3 (.int .i64 0) h fun v4 h=>
 az v4 (
 CallW prog 45 [a0,(.int .i64 4),(Value.func (.func 217) (Array.mk [a0]) (Array.mk []))] h fun v5 h=>
 κ (Value.tuple (Array.mk [])) h) (
 vK a0 h κ)) := by kernel_rfl
def vL (v5 a2 a0:Value) (Hr:List Value→Heap→Prop) (l3:List Value) (h:Heap):Prop :=
 au False prog .add 3 true false v5 (.int .i64 1) h fun bM h=>
 au False prog .lss 3 false false bM a2 h fun bR h=>
 ag (ai bR true) (fun xI=>
 xI a0 h) h fun v17 h=>
 ag (ai bR true) (fun Bw=>
 Bw bM h) h fun v19 h=>
 ag (ai bR true) (fun J9=>
 J9 v5 h) h fun v21 h=>
 ag (ai bR true) (fun K22=>
 CallI prog "Less" v17 [v19,v21] h K22) h fun v23 h=>
 aW False bR v23 (.bool false) h fun v24 h=>
 az v24 (
 Hr [v5,bM,bM,bM,a2,bR,bR,v17,v19,v21,v23,v24,bM,bM] h) (
 Hr [v5,bM,bM,bM,a2,bR,bR,v17,v19,v21,v23,v24,(slot l3 24),v5] h)
def BQ (v5 a2 a0:Value) (l3:List Value) (N0:List Value→Heap→Prop) (v4 v6 v8 v10 v11:Value) (N2:List Value→Heap→Prop) (h:Heap):Prop :=
 dw (fun Hr=>
 vL v5 a2 a0 Hr l3 h) fun l13 h=>
 CallI prog "Less" a0 [(slot l13 13),(slot l3 36)] h fun v25 h=>
 iX False .not v25 h fun v26 h=>
 az v26 (
 N0 [(slot l3 36),v4,v5,v5,v5,a2,v6,v6,v8,v10,v11,v5,(slot l13 0),(slot l13 1),(slot l13 2),(slot l13 3),(slot l13 4),(slot l13 5),(slot l13 6),(slot l13 7),(slot l13 8),(slot l13 9),(slot l13 10),(slot l13 11),(slot l13 12),(slot l13 13),a0,(slot l13 13),(slot l3 36),v25,v26,(slot l3 31),(slot l3 32),(slot l3 33),(slot l3 34),(slot l3 35),(slot l3 36)] h) (
 CallI prog "Swap" a0 [(slot l3 36),(slot l13 13)] h fun v27 h=>
 N2 [(slot l3 36),v4,v5,v5,v5,a2,v6,v6,v8,v10,v11,v5,(slot l13 0),(slot l13 1),(slot l13 2),(slot l13 3),(slot l13 4),(slot l13 5),(slot l13 6),(slot l13 7),(slot l13 8),(slot l13 9),(slot l13 10),(slot l13 11),(slot l13 12),(slot l13 13),a0,(slot l13 13),(slot l3 36),v25,v26,a0,(slot l3 36),(slot l13 13),v27,(slot l13 13),(slot l13 13)] h)
def qZ (l3:List Value) (a2:Value) (N0:List Value→Heap→Prop) (a0:Value) (N2:List Value→Heap→Prop) (h:Heap):Prop :=
 au False prog .mul 3 true false (.int .i64 2) (slot l3 36) h fun v4 h=>
 au False prog .add 3 true false v4 (.int .i64 1) h fun v5 h=>
 au False prog .geq 3 false false v5 a2 h fun v6 h=>
 ag (ai v6 false) (fun K7=>
 K7 v5 h) h fun v8 h=>
 ag (ai v6 false) (fun K9=>
 au False prog .lss 3 true false v8 (.int .i64 0) h K9) h fun v10 h=>
 aW False v6 (.bool true) v10 h fun v11 h=>
 az v11 (
 N0 [(slot l3 36),v4,v5,v5,v5,a2,v6,v6,v8,v10,v11,(slot l3 11),(slot l3 12),(slot l3 13),(slot l3 14),(slot l3 15),(slot l3 16),(slot l3 17),(slot l3 18),(slot l3 19),(slot l3 20),(slot l3 21),(slot l3 22),(slot l3 23),(slot l3 24),(slot l3 25),(slot l3 26),(slot l3 27),(slot l3 28),(slot l3 29),(slot l3 30),(slot l3 31),(slot l3 32),(slot l3 33),(slot l3 34),(slot l3 35),(slot l3 36)] h) (
 BQ v5 a2 a0 l3 N0 v4 v6 v8 v10 v11 N2 h)
theorem Ki (a0 a1 a2:Value) (h:Heap) (κ:KQ):aJ prog 172 [a0,a1,a2] h κ = (
 dw (fun N0=>
 ej [undef,undef,undef,undef,undef,undef,undef,undef,undef,undef,undef,undef,undef,undef,undef,undef,undef,undef,undef,undef,undef,undef,undef,undef,undef,undef,undef,undef,undef,undef,undef,undef,undef,undef,undef,undef,a1] h fun l3 h N2=>
 qZ l3 a2 N0 a0 N2 h) fun l1 h=>
 au False prog .gtr 3 false false (slot l1 36) a1 h fun v28 h=>
 κ v28 h) := by kernel_rfl
theorem SF (a0 a1:Value) (h:Heap) (κ:KQ):aJ prog 173 [a0,a1] h κ = (
 CallW prog 225 [a0] h fun v0 h=>
 CallW prog 226 [v0,a1] h fun v1 h=>
 κ v0 h) := by kernel_rfl
theorem SG (a0:Value) (h:Heap) (κ:KQ):aJ prog 174 [a0] h κ = (
 aF False (Value.cells a0).toList 218 false fun o0 => an False o0 h fun b1 h=>
 κ (Value.func (.func 227) (Array.mk []) (Array.mk [(ptrTo b1)])) h) := by kernel_rfl
theorem SH (a0 a1:Value) (h:Heap) (κ:KQ):aJ prog 191 [a0,a1] h κ = (
 aF False (Value.cells a0).toList 81 false fun o0 => an False o0 h fun b1 h=>
 aF False [(.int .i64 0),(.int .i64 0),(.int .i64 0),(.int .i64 0),(.int .i64 0)] 83 false fun o2 => an False o2 h fun b3 h=>
 aI False 4 (ptrTo b1) h fun v4 h=>
 bJ False [(0,4)] [v4] [(.int .i64 0),(.int .i64 0),(.slice none 0 0),(.int .i64 0)] fun U_=>
 CallW prog 236 [(Value.agg (Array.mk U_)),a1] h fun v6 h=>
 au False prog .lss 3 true false v6 (.int .i64 0) h fun v7 h=>
 az v7 (
 bJ False [] [] [(.int .i64 0),(.int .i64 0),(.int .i64 0),(.int .i64 0),(.int .i64 0)] fun cs8=>
 aG False 5 (ptrTo b3) (Value.agg (Array.mk cs8)) h fun v9 h=>
 aI False 5 (ptrTo b3) h fun v10 _ => κ (Value.tuple (Array.mk [v10,(.bool false)])) h) (
 fieldAddrB False 2 (ptrTo b1) h fun v11 h=>
 load1 False v11 h fun v12 h=>
 av False 5 v12 v6 h fun bN h=>
 aI False 5 bN h fun bM h=>
 aG False 5 (ptrTo b3) bM h fun bR h=>
 aI False 5 (ptrTo b3) h fun v16 _ => κ (Value.tuple (Array.mk [v16,(.bool true)])) h)) := by kernel_rfl
theorem SI (a0:Value) (h:Heap) (κ:KQ):aJ prog 192 [a0] h κ = (
 aF False (Value.cells a0).toList 83 false fun o0 => an False o0 h fun b1 h=>
 fieldAddrB False 4 (ptrTo b1) h fun v2 h=>
 load1 False v2 h fun v3 h=>
 au False prog .gtr 3 true false v3 (.int .i64 0) h fun v4 h=>
 κ v4 h) := by kernel_rfl
def q7 (l1:List Value) (a0:Value) (N0:List Value→Heap→Prop) (h:Heap) (κ:KQ):Prop :=
 au False prog .sub 3 true false (slot l1 19) (.int .i64 1) h fun v2 h=>
 au False prog .quo 3 true false v2 (.int .i64 2) h fun v3 h=>
 au False prog .eql 3 false false v3 (slot l1 19) h fun v4 h=>
 ag (ai v4 false) (fun K5=>
 K5 a0 h) h fun v6 h=>
 ag (ai v4 false) (fun K7=>
 K7 (slot l1 19) h) h fun v8 h=>
 ag (ai v4 false) (fun K9=>
 K9 v3 h) h fun v10 h=>
 ag (ai v4 false) (fun K11=>
 CallI prog "Less" v6 [v8,v10] h K11) h fun v12 h=>
 ag (ai v4 false) (fun K13=>
 iX False .not v12 h K13) h fun bM h=>
 aW False v4 (.bool true) bM h fun bR h=>
 az bR (
 κ (Value.tuple (Array.mk [])) h) (
 CallI prog "Swap" a0 [v3,(slot l1 19)] h fun v16 h=>
 N0 [(slot l1 19),v2,v3,v3,v3,(slot l1 19),v4,v4,v6,v8,v10,v12,bM,bR,a0,v3,(slot l1 19),v16,v3,v3] h)
theorem Kj (a0 a1:Value) (h:Heap) (κ:KQ):aJ prog 199 [a0,a1] h κ = (
 ej [undef,undef,undef,undef,undef,undef,undef,undef,undef,undef,undef,undef,undef,undef,undef,undef,undef,undef,undef,a1] h fun l1 h N0=>
 q7 l1 a0 N0 h κ) := by kernel_rfl
def BR (a0 a1:Value) (h:Heap) (κ:KQ):Prop :=
 aM False a0 h fun v1 h=>
 fieldAddrB False 6 v1 h fun v2 h=>
 load1 False v2 h fun v3 h=>
 c8 False prog 3 (.int .i64 0) true v3 a1 h fun v4 h=>
 aq False 0 v4 h fun v5 h=>
 aq False 1 v4 h fun v6 h=>
 iX False .not v6 h fun v7 h=>
 ag (ai v7 false) (fun K8=>
 K8 a0 h) h fun v9 h=>
 ag (ai v7 false) (fun qT=>
 aM False v9 h qT) h fun v11 h=>
 ag (ai v7 false) (fun oK=>
 fieldAddrB False 4 v11 h oK) h fun bN h=>
 ag (ai v7 false) (fun sv=>
 load1 False bN h sv) h fun bR h=>
 ag (ai v7 false) (fun xI=>
 xI a1 h) h fun v17 h=>
 ag (ai v7 false) (fun Bw=>
 CallW prog 242 [bR,v17] h Bw) h fun v19 h=>
 ag (ai v7 false) (fun J9=>
 iX False .not v19 h J9) h fun v21 h=>
 aW False v7 (.bool true) v21 h fun v22 h=>
 az v22 (
 κ (.pointer none) h) (
 aM False a0 h fun v23 h=>
 fieldAddrB False 5 v23 h fun v24 h=>
 load1 False v24 h fun v25 h=>
 av False 1 v25 v5 h fun v26 h=>
 load1 False v26 h fun v27 h=>
 κ v27 h)
theorem SJ (a0 a1:Value) (h:Heap) (κ:KQ):aJ prog 201 [a0,a1] h κ = (
 au False prog .eql 100 true false a0 (.pointer none) h fun v0 h=>
 az v0 (
 κ (.pointer none) h) (
 BR a0 a1 h κ)) := by kernel_rfl
def BS (v4 a1:Value) (b1 b3:Nat) (h:Heap) (κ:KQ):Prop :=
 aM False v4 h fun v12 h=>
 aI False 4 v12 h fun bN h=>
 CallW prog 191 [bN,a1] h fun bM h=>
 aq False 0 bM h fun bR h=>
 aq False 1 bM h fun v16 h=>
 aF False [(.int .i64 0),(.int .i64 0),(.int .i64 0),(.int .i64 0),(.int .i64 0)] 83 false fun o17 => an False o17 h fun R9 h=>
 aG False 5 (ptrTo R9) bR h fun v19 h=>
 ay (some v4) h fun v20 h=>
 ay (aM none v20 h fun v _=>some v) h fun v21 h=>
 ay (fieldAddrB none 0 v21 h fun v _=>some v) h fun v22 h=>
 ay (aI none 2 v22 h fun v _=>some v) h fun v23 h=>
 ay (aI none 5 (ptrTo R9) h fun v _=>some v) h fun v24 h=>
 ay (some v16) h fun v25 h=>
 aG False 2 (ptrTo b1) v23 h fun v26 h=>
 cZ ((eU (aI none 5 (ptrTo R9) h fun v _=>some v) v24) && ((eU (some v16) v25) && true)) (aG False 5 (ptrTo b3) v24 h fun v27 h=>
 cZ ((eU (some v16) v25) && true) (aI False 2 (ptrTo b1) h fun v28 _ => aI False 5 (ptrTo b3) h fun nJ _ => κ (Value.tuple (Array.mk [v28,nJ,v25])) h))
theorem Kk (a0 a1:Value) (h:Heap) (κ:KQ):aJ prog 202 [a0,a1] h κ = (
 aF False [(.int .i64 0),(.int .i64 0)] 36 false fun o0 => an False o0 h fun b1 h=>
 aF False [(.int .i64 0),(.int .i64 0),(.int .i64 0),(.int .i64 0),(.int .i64 0)] 83 false fun o2 => an False o2 h fun b3 h=>
 CallW prog 243 [a0,a1] h fun v4 h=>
 au False prog .eql 228 true false v4 (.pointer none) h fun v5 h=>
 az v5 (
 bJ False [] [] [(.int .i64 0),(.int .i64 0)] fun cs6=>
 bJ False [] [] [(.int .i64 0),(.int .i64 0),(.int .i64 0),(.int .i64 0),(.int .i64 0)] fun cs7=>
 aG False 2 (ptrTo b1) (Value.agg (Array.mk cs6)) h fun v8 h=>
 aG False 5 (ptrTo b3) (Value.agg (Array.mk cs7)) h fun v9 h=>
 aI False 2 (ptrTo b1) h fun v10 _ => aI False 5 (ptrTo b3) h fun v11 _ => κ (Value.tuple (Array.mk [v10,v11,(.bool false)])) h) (
 BS v4 a1 b1 b3 h κ)) := by kernel_rfl
theorem SK (a0:Value) (h:Heap) (κ:KQ):aJ prog 203 [a0] h κ = (
 au False prog .eql 100 true false a0 (.pointer none) h fun v0 h=>
 az v0 (
 κ (.int .i64 1) h) (
 κ (.int .i64 5) h)) := by kernel_rfl
def vM (b9:Nat) (a1 a0:Value) (Hr:List Value→Heap→Prop) (h:Heap):Prop :=
 aI False 4 (ptrTo b9) h fun bM h=>
 CallW prog 191 [bM,a1] h fun bR h=>
 aq False 0 bR h fun v16 h=>
 aq False 1 bR h fun v17 h=>
 aF False [(.int .i64 0),(.int .i64 0),(.int .i64 0),(.int .i64 0),(.int .i64 0)] 83 false fun o18 => an False o18 h fun b19 h=>
 aG False 5 (ptrTo b19) v16 h fun v20 h=>
 iX False .not v17 h fun v21 h=>
 az v21 (
 aM False a0 h fun v22 h=>
 fieldAddrB False 1 v22 h fun v23 h=>
 load1 False v23 h fun v24 h=>
 CallW prog 246 [v24,a1] h fun v25 h=>
 Hr [bM,a1,bR,bR,v16,v17,(ptrTo b19),v17,v17,v21,a0,v22,v23,v24,a1,v25] h) (
 Hr [bM,a1,bR,bR,v16,v17,(ptrTo b19),v17,v17,v21,undef,undef,undef,undef,undef,undef] h)
def BT (v0 a1 a0:Value) (h:Heap) (κ:KQ):Prop :=
 aM False v0 h fun v3 h=>
 aI False 4 v3 h fun v4 h=>
 CallW prog 245 [v4,a1] h fun v5 h=>
 aq False 0 v5 h fun v6 h=>
 aq False 1 v5 h fun v7 h=>
 aF False [(.int .i64 0),(.int .i64 0),(.slice none 0 0),(.int .i64 0)] 81 false fun o8 => an False o8 h fun b9 h=>
 aG False 4 (ptrTo b9) v6 h fun v10 h=>
 au False prog .neq 26 true false v7 (.int .i64 0) h fun v11 h=>
 az v11 (
 κ (Value.tuple (Array.mk [(.slice none 0 0),v7])) h) (
 dw (fun Hr=>
 vM b9 a1 a0 Hr h) fun l13 h=>
 aI False 4 (ptrTo b9) h fun v26 h=>
 CallW prog 247 [a0,v26] h fun v27 h=>
 κ (Value.tuple (Array.mk [v27,(.int .i64 0)])) h)
theorem SL (a0 a1:Value) (h:Heap) (κ:KQ):aJ prog 204 [a0,a1] h κ = (
 CallW prog 243 [a0,a1] h fun v0 h=>
 au False prog .eql 228 true false v0 (.pointer none) h fun v1 h=>
 az v1 (
 CallW prog 244 [a0] h fun v2 h=>
 κ (Value.tuple (Array.mk [(.slice none 0 0),v2])) h) (
 BT v0 a1 a0 h κ)) := by kernel_rfl
theorem SM (a0 a1 a2:Value) (h:Heap) (κ:KQ):aJ prog 205 [a0,a1,a2] h κ = (
 aF False (Value.cells a1).toList 3 false fun o0 => an False o0 h fun b1 h=>
 aF False (Value.cells a2).toList 3 false fun o2 => an False o2 h fun b3 h=>
 aM False a0 h fun v4 h=>
 fieldAddrB False 1 v4 h fun v5 h=>
 load1 False v5 h fun v6 h=>
 CallW prog 248 [v6,(Value.func (.func 249) (Array.mk []) (Array.mk [(ptrTo b1),(ptrTo b3)]))] h fun v7 h=>
 κ v7 h) := by kernel_rfl
def BU (a0 v3:Value) (b1:Nat) (a2:Value) (h:Heap) (κ:KQ):Prop :=
 ay (some a0) h fun v5 h=>
 ay (aM none v5 h fun v _=>some v) h fun v6 h=>
 ay (fieldAddrB none 5 v6 h fun v _=>some v) h fun v7 h=>
 ay (load1 none v7 h fun v _=>some v) h fun v8 h=>
 ay (some v3) h fun v9 h=>
 ay (av none 1 v8 v9 h fun v _=>some v) h fun v10 h=>
 ay (load1 none v10 h fun v _=>some v) h fun v11 h=>
 ay (aI none 2 (ptrTo b1) h fun v _=>some v) h fun v12 h=>
 ay (some a2) h fun bN h=>
 CallW prog 250 [v11,v12,bN] h fun bM h=>
 ay (aq none 0 bM h fun v _=>some v) h fun bR h=>
 ay (aq none 1 bM h fun v _=>some v) h fun v16 h=>
 κ (Value.tuple (Array.mk [bR,v16])) h
theorem SN (a0 a1 a2:Value) (h:Heap) (κ:KQ):aJ prog 207 [a0,a1,a2] h κ = (
 aF False (Value.cells a1).toList 36 false fun o0 => an False o0 h fun b1 h=>
 aI False 2 (ptrTo b1) h fun v2 h=>
 CallW prog 44 [a0,v2] h fun v3 h=>
 au False prog .lss 3 true false v3 (.int .i64 0) h fun v4 h=>
 az v4 (
 κ (Value.tuple (Array.mk [(.int .i64 0),(.bool false)])) h) (
 BU a0 v3 b1 a2 h κ)) := by kernel_rfl
def vN (v5:Value) (l8:List Value) (b1:Nat) (N7:List Value→Heap→Prop) (v9:Value) (h:Heap) (κ:KQ):Prop :=
 av False 4 v5 (slot l8 12) h fun v10 h=>
 aI False 4 v10 h fun v11 h=>
 aF False [(.int .i64 0),(.int .i64 0),(.slice none 0 0),(.int .i64 0)] 81 false fun o12 => an False o12 h fun Vc h=>
 aG False 4 (ptrTo Vc) v11 h fun bM h=>
 fieldAddrB False 0 (ptrTo Vc) h fun bR h=>
 aI False 2 bR h fun v16 h=>
 aI False 2 (ptrTo b1) h fun v17 h=>
 au False prog .eql 36 false false v16 v17 h fun cM h=>
 az cM (
 fieldAddrB False 2 (ptrTo Vc) h fun v19 h=>
 load1 False v19 h fun v20 h=>
 κ v20 h) (
 au False prog .add 3 true false (slot l8 12) (.int .i64 1) h fun v21 h=>
 N7 [v9,v10,v11,(ptrTo Vc),bR,v16,v17,cM,(slot l8 8),(slot l8 9),(slot l8 10),v21,v21] h)
theorem Kl (a0 a1:Value) (h:Heap) (κ:KQ):aJ prog 209 [a0,a1] h κ = (
 aF False (Value.cells a1).toList 36 false fun o0 => an False o0 h fun b1 h=>
 aM False a0 h fun v2 h=>
 fieldAddrB False 0 v2 h fun v3 h=>
 load1 False v3 h fun v4 h=>
 CallW prog 65 [v4] h fun v5 h=>
 bz False v5 h fun v6 h=>
 ej [undef,undef,undef,undef,undef,undef,undef,undef,undef,undef,(.slice none 0 0),undef,(.int .i64 0)] h fun l8 h N7=>
 au False prog .lss 3 false false (slot l8 12) v6 h fun v9 h=>
 az v9 (
 vN v5 l8 b1 N7 v9 h κ) (
 κ (.slice none 0 0) h)) := by kernel_rfl
theorem SO (a0 a1:Value) (h:Heap) (κ:KQ):aJ prog 211 [a0,a1] h κ = (
 aM False a0 h fun v0 h=>
 fieldAddrB False 7 v0 h fun v1 h=>
 load1 False v1 h fun v2 h=>
 aM False v2 h fun v3 h=>
 fieldAddrB False 0 v3 h fun v4 h=>
 load1 False v4 h fun v5 h=>
 CallW prog 253 [v5,a1] h fun v6 h=>
 aq False 0 v6 h fun v7 h=>
 aq False 1 v6 h fun v8 h=>
 aM False a0 h fun v9 h=>
 fieldAddrB False 18 v9 h fun v10 h=>
 load1 False v10 h fun v11 h=>
 bG False 3 1 [(.int .i64 0)] false v11 v7 h fun v12 h=>
 aM False a0 h fun bN h=>
 fieldAddrB False 18 bN h fun bM h=>
 aG False 1 bM v12 h fun bR h=>
 κ (Value.tuple (Array.mk [])) h) := by kernel_rfl
def nN (v20 a0 cM v4:Value) (Og:List Value→Heap→Prop) (h:Heap):Prop :=
 au False prog .eql 26 true false v20 (.int .i64 0) h fun v23 h=>
 az v23 (
 aM False a0 h fun v24 h=>
 fieldAddrB False 6 v24 h fun v25 h=>
 load1 False v25 h fun v26 h=>
 bW False prog 3 v26 cM v4 h fun v27 h=>
 Og [v20,v23,a0,v24,v25,v26,cM,v4] h) (
 Og [v20,v23,undef,undef,undef,undef,undef,undef] h)
def BV (a0 v4:Value) (b1:Nat) (a2 a3:Value) (h:Heap) (κ:KQ):Prop :=
 ay (some a0) h fun v6 h=>
 ay (aM none v6 h fun v _=>some v) h fun v7 h=>
 ay (fieldAddrB none 5 v7 h fun v _=>some v) h fun v8 h=>
 ay (load1 none v8 h fun v _=>some v) h fun v9 h=>
 ay (some v4) h fun v10 h=>
 ay (av none 1 v9 v10 h fun v _=>some v) h fun v11 h=>
 ay (load1 none v11 h fun v _=>some v) h fun v12 h=>
 ay (aI none 2 (ptrTo b1) h fun v _=>some v) h fun bN h=>
 ay (some a2) h fun bM h=>
 ay (some a3) h fun bR h=>
 CallW prog 255 [v12,bN,bM,bR] h fun v16 h=>
 ay (some v16) h fun v17 h=>
 ay (aq none 0 v17 h fun v _=>some v) h fun cM h=>
 ay (aq none 1 v17 h fun v _=>some v) h fun v19 h=>
 ay (aq none 2 v17 h fun v _=>some v) h fun v20 h=>
 cZ ((eU (aq none 1 v17 h fun v _=>some v) v19) && ((eU (aq none 2 v17 h fun v _=>some v) v20) && true)) (cZ ((eU (aq none 2 v17 h fun v _=>some v) v20) && true) (dw (fun Og=>
 nN v20 a0 cM v4 Og h) fun xb h=>
 κ (Value.tuple (Array.mk [cM,v19,v20])) h))
theorem SP (a0 a1 a2 a3:Value) (h:Heap) (κ:KQ):aJ prog 213 [a0,a1,a2,a3] h κ = (
 aF False (Value.cells a1).toList 36 false fun o0 => an False o0 h fun b1 h=>
 au False prog .eql 100 true false a0 (.pointer none) h fun v2 h=>
 az v2 (
 κ (Value.tuple (Array.mk [(.int .i64 0),(.bool false),(.int .i64 1)])) h) (
 aI False 2 (ptrTo b1) h fun v3 h=>
 CallW prog 44 [a0,v3] h fun v4 h=>
 au False prog .lss 3 true false v4 (.int .i64 0) h fun v5 h=>
 az v5 (
 κ (Value.tuple (Array.mk [(.int .i64 0),(.bool false),(.int .i64 2)])) h) (
 BV a0 v4 b1 a2 a3 h κ))) := by kernel_rfl
def vO (v0 a0 a1 a2:Value) (h:Heap) (κ:KQ):Prop :=
 au False prog .eql 182 true false v0 (.pointer none) h fun v17 h=>
 az v17 (
 CallW prog 203 [a0] h fun cM h=>
 κ (Value.tuple (Array.mk [(.bool false),cM])) h) (
 CallW prog 256 [v0,a1,a2] h fun v19 h=>
 aq False 0 v19 h fun v20 h=>
 aq False 1 v19 h fun v21 h=>
 κ (Value.tuple (Array.mk [v20,v21])) h)
theorem SQ (a0 a1 a2:Value) (h:Heap) (κ:KQ):aJ prog 214 [a0,a1,a2] h κ = (
 CallW prog 201 [a0,a1] h fun v0 h=>
 au False prog .neq 100 true false a0 (.pointer none) h fun v1 h=>
 ag (ai v1 true) (fun K2=>
 K2 a2 h) h fun v3 h=>
 ag (ai v1 true) (fun K4=>
 au False prog .eql 37 true false v3 (.int .i64 0) h K4) h fun v5 h=>
 ag (ai v1 true) (fun K6=>
 K6 v5 h) h fun v7 h=>
 ag (ai v7 false) (fun K8=>
 K8 a2 h) h fun v9 h=>
 ag (ai v7 false) (fun qT=>
 CallW prog 73 [v9] h qT) h fun v11 h=>
 ag (ai v7 false) (fun oK=>
 iX False .not v11 h oK) h fun bN h=>
 ag (ai v1 true) (fun sv=>
 aW False v7 (.bool true) bN h sv) h fun bR h=>
 aW False v1 bR (.bool false) h fun v16 h=>
 az v16 (
 κ (Value.tuple (Array.mk [(.bool false),(.int .i64 2)])) h) (
 vO v0 a0 a1 a2 h κ)) := by kernel_rfl
def BW (a0 v25:Value) (h:Heap) (κ:KQ):Prop :=
 ay (some a0) h fun mL h=>
 ay (aM none mL h fun v _=>some v) h fun v49 h=>
 ay (fieldAddrB none 7 v49 h fun v _=>some v) h fun v50 h=>
 ay (load1 none v50 h fun v _=>some v) h fun v51 h=>
 ay (aM none v51 h fun v _=>some v) h fun lS h=>
 ay (fieldAddrB none 3 lS h fun v _=>some v) h fun v53 h=>
 ay (load1 none v53 h fun v _=>some v) h fun v54 h=>
 ay (some v25) h fun v55 h=>
 ay (some a0) h fun nK h=>
 ay (aM none nK h fun v _=>some v) h fun mA h=>
 ay (fieldAddrB none 0 mA h fun v _=>some v) h fun v58 h=>
 ay (fieldAddrB none 5 v58 h fun v _=>some v) h fun v59 h=>
 ay (load1 none v59 h fun v _=>some v) h fun v60 h=>
 ay (au none prog .add 2 false false v55 v60 h fun v _=>some v) h fun mP h=>
 ay (some a0) h fun vD h=>
 ay (aM none vD h fun v _=>some v) h fun o9 h=>
 ay (fieldAddrB none 8 o9 h fun v _=>some v) h fun v64 h=>
 ay (load1 none v64 h fun v _=>some v) h fun qs h=>
 ay (some a0) h fun v66 h=>
 ay (aM none v66 h fun v _=>some v) h fun v67 h=>
 ay (fieldAddrB none 9 v67 h fun v _=>some v) h fun tM h=>
 ay (load1 none tM h fun v _=>some v) h fun xJ h=>
 CallW prog 258 [v54,mP,qs,xJ] h fun v70 h=>
 κ (Value.tuple (Array.mk [])) h
theorem SR (a0 a1:Value) (h:Heap) (κ:KQ):aJ prog 215 [a0,a1] h κ = (
 aM False a0 h fun v0 h=>
 fieldAddrB False 13 v0 h fun v1 h=>
 aG False 1 v1 (.bool true) h fun v2 h=>
 aM False a0 h fun v3 h=>
 fieldAddrB False 14 v3 h fun v4 h=>
 aG False 1 v4 a1 h fun v5 h=>
 ay (some a0) h fun v6 h=>
 ay (aM none v6 h fun v _=>some v) h fun v7 h=>
 ay (fieldAddrB none 7 v7 h fun v _=>some v) h fun v8 h=>
 ay (load1 none v8 h fun v _=>some v) h fun v9 h=>
 ay (aM none v9 h fun v _=>some v) h fun v10 h=>
 ay (fieldAddrB none 5 v10 h fun v _=>some v) h fun v11 h=>
 ay (load1 none v11 h fun v _=>some v) h fun v12 h=>
 ay (some a1) h fun bN h=>
 ay (some a0) h fun bM h=>
 ay (aM none bM h fun v _=>some v) h fun bR h=>
 ay (fieldAddrB none 8 bR h fun v _=>some v) h fun v16 h=>
 ay (load1 none v16 h fun v _=>some v) h fun v17 h=>
 bW False prog 3 v12 bN v17 h fun cM h=>
 aM False a0 h fun v19 h=>
 fieldAddrB False 7 v19 h fun v20 h=>
 load1 False v20 h fun v21 h=>
 aM False v21 h fun v22 h=>
 fieldAddrB False 3 v22 h fun v23 h=>
 load1 False v23 h fun v24 h=>
 CallW prog 257 [v24] h fun v25 h=>
 aM False a0 h fun v26 h=>
 fieldAddrB False 0 v26 h fun v27 h=>
 fieldAddrB False 5 v27 h fun v28 h=>
 load1 False v28 h fun nJ h=>
 au False prog .gtr 2 true false nJ (.int .i64 0) h fun v30 h=>
 ag (ai v30 true) (fun Hq=>
 Hq v25 h) h fun v32 h=>
 ag (ai v30 true) (fun J7=>
 J7 a0 h) h fun ig h=>
 ag (ai v30 true) (fun NY=>
 aM False ig h NY) h fun iS h=>
 ag (ai v30 true) (fun NZ=>
 fieldAddrB False 0 iS h NZ) h fun j0 h=>
 ag (ai v30 true) (fun Wq=>
 fieldAddrB False 5 j0 h Wq) h fun v40 h=>
 ag (ai v30 true) (fun Sb=>
 load1 False v40 h Sb) h fun lH h=>
 ag (ai v30 true) (fun Sc=>
 au False prog .sub 2 true false (.int .i64 9223372036854775807) lH h Sc) h fun v44 h=>
 ag (ai v30 true) (fun Sd=>
 au False prog .leq 2 false false v32 v44 h Sd) h fun v46 h=>
 aW False v30 v46 (.bool false) h fun rO h=>
 az rO (
 BW a0 v25 h κ) (
 κ (Value.tuple (Array.mk [])) h)) := by kernel_rfl
theorem SS (a0:Value) (h:Heap) (κ:KQ):aJ prog 218 [a0] h κ = (
 ay (some a0) h fun v0 h=>
 ay (aM none v0 h fun v _=>some v) h fun v1 h=>
 ay (fieldAddrB none 7 v1 h fun v _=>some v) h fun v2 h=>
 ay (load1 none v2 h fun v _=>some v) h fun v3 h=>
 ay (aM none v3 h fun v _=>some v) h fun v4 h=>
 ay (fieldAddrB none 2 v4 h fun v _=>some v) h fun v5 h=>
 ay (load1 none v5 h fun v _=>some v) h fun v6 h=>
 ay (some a0) h fun v7 h=>
 ay (aM none v7 h fun v _=>some v) h fun v8 h=>
 ay (fieldAddrB none 8 v8 h fun v _=>some v) h fun v9 h=>
 ay (load1 none v9 h fun v _=>some v) h fun v10 h=>
 CallW prog 260 [v6,v10] h fun v11 h=>
 CallW prog 45 [a0,(.int .i64 1),(Value.func (.func 46) (Array.mk [a0]) (Array.mk []))] h fun v12 h=>
 κ (Value.tuple (Array.mk [])) h) := by kernel_rfl
theorem SU (a0:Value) (h:Heap) (κ:KQ):aJ prog 225 [a0] h κ = (
 CallW prog 262 [(.slice none 0 0),a0] h fun v0 h=>
 κ v0 h) := by kernel_rfl
theorem SV (a0 a1:Value) (h:Heap) (κ:KQ):aJ prog 226 [a0,a1] h κ = (
 bz False a0 h fun v0 h=>
 jI False .u64 v0 h fun v1 h=>
 CallW prog 132 [v1] h fun v2 h=>
 CallW prog 263 [a0,(.int .i64 0),v0,v2,a1] h fun v3 h=>
 κ (Value.tuple (Array.mk [])) h) := by kernel_rfl
theorem SX (a0 a1:Value) (h:Heap) (κ:KQ):aJ prog 236 [a0,a1] h κ = (
 aF False (Value.cells a0).toList 305 false fun o0 => an False o0 h fun b1 h=>
 aF False (Value.cells a1).toList 3 false fun o2 => an False o2 h fun b3 h=>
 fieldAddrB False 0 (ptrTo b1) h fun v4 h=>
 fieldAddrB False 2 v4 h fun v5 h=>
 load1 False v5 h fun v6 h=>
 CallW prog 268 [v6,(Value.func (.func 269) (Array.mk []) (Array.mk [(ptrTo b3)]))] h fun v7 h=>
 κ v7 h) := by kernel_rfl
theorem SY (a0:Value) (h:Heap) (κ:KQ):aJ prog 237 [a0] h κ = (
 aF False (Value.cells a0).toList 83 false fun o0 => an False o0 h fun b1 h=>
 fieldAddrB False 2 (ptrTo b1) h fun v2 h=>
 load1 False v2 h fun v3 h=>
 au False prog .neq 37 true false v3 (.int .i64 0) h fun v4 h=>
 κ v4 h) := by kernel_rfl
theorem SZ (a0:Value) (h:Heap) (κ:KQ):aJ prog 238 [a0] h κ = (
 aF False (Value.cells a0).toList 83 false fun o0 => an False o0 h fun b1 h=>
 aI False 5 (ptrTo b1) h fun v2 h=>
 CallW prog 237 [v2] h fun v3 h=>
 ag (ai v3 true) (fun K4=>
 aI False 5 (ptrTo b1) h K4) h fun v5 h=>
 ag (ai v3 true) (fun K6=>
 CallW prog 192 [v5] h K6) h fun v7 h=>
 aW False v3 v7 (.bool false) h fun v8 h=>
 κ v8 h) := by kernel_rfl
theorem S0 (a0 a1:Value) (h:Heap) (κ:KQ):aJ prog 242 [a0,a1] h κ = (
 au False prog .neq 144 true false a0 (.pointer none) h fun v0 h=>
 ag (ai v0 true) (fun K1=>
 K1 a1 h) h fun v2 h=>
 ag (ai v0 true) (fun K3=>
 au False prog .geq 3 true false v2 (.int .i64 0) h K3) h fun v4 h=>
 aW False v0 v4 (.bool false) h fun v5 h=>
 ag (ai v5 true) (fun K6=>
 K6 a1 h) h fun v7 h=>
 ag (ai v5 true) (fun K8=>
 K8 a0 h) h fun v9 h=>
 ag (ai v5 true) (fun qT=>
 aM False v9 h qT) h fun v11 h=>
 ag (ai v5 true) (fun oK=>
 fieldAddrB False 1 v11 h oK) h fun bN h=>
 ag (ai v5 true) (fun sv=>
 load1 False bN h sv) h fun bR h=>
 ag (ai v5 true) (fun xI=>
 bz False bR h xI) h fun v17 h=>
 ag (ai v5 true) (fun Bw=>
 au False prog .lss 3 false false v7 v17 h Bw) h fun v19 h=>
 aW False v5 v19 (.bool false) h fun v20 h=>
 ag (ai v20 true) (fun Oa=>
 Oa a0 h) h fun v22 h=>
 ag (ai v20 true) (fun J4=>
 aM False v22 h J4) h fun v24 h=>
 ag (ai v20 true) (fun N_=>
 fieldAddrB False 1 v24 h N_) h fun v26 h=>
 ag (ai v20 true) (fun J5=>
 load1 False v26 h J5) h fun v28 h=>
 ag (ai v20 true) (fun J6=>
 J6 a1 h) h fun v30 h=>
 ag (ai v20 true) (fun Hq=>
 av False 1 v28 v30 h Hq) h fun v32 h=>
 ag (ai v20 true) (fun J7=>
 load1 False v32 h J7) h fun ig h=>
 aW False v20 ig (.bool false) h fun v35 h=>
 κ v35 h) := by kernel_rfl
def BX (v4 a1:Value) (N5:List Value→Heap→Prop) (v7 v8:Value) (l6:List Value) (h:Heap) (κ:KQ):Prop :=
 lV False v4 h fun v9 h=>
 aq False 1 v9 h fun v10 h=>
 aM False v10 h fun v11 h=>
 aI False 4 v11 h fun v12 h=>
 CallW prog 191 [v12,a1] h fun bN h=>
 aq False 0 bN h fun bM h=>
 aq False 1 bN h fun bR h=>
 aF False [(.int .i64 0),(.int .i64 0),(.int .i64 0),(.int .i64 0),(.int .i64 0)] 83 false fun o16 => an False o16 h fun b17 h=>
 aG False 5 (ptrTo b17) bM h fun cM h=>
 az bR (
 κ v10 h) (
 N5 [v7,v8,v9,v10,v10,v10,v11,v12,a1,bN,bN,bM,bR,(ptrTo b17),bR,bR,(slot l6 16),(slot l6 17)] h)
def BY (a0 a1:Value) (h:Heap) (κ:KQ):Prop :=
 aM False a0 h fun v1 h=>
 fieldAddrB False 2 v1 h fun v2 h=>
 load1 False v2 h fun v3 h=>
 lU False v3 h fun v4 h=>
 ej [undef,undef,undef,undef,undef,undef,undef,undef,undef,undef,undef,undef,undef,undef,undef,undef,undef,(.pointer none)] h fun l6 h N5=>
 oP False And v4 h fun v7 h=>
 aq False 0 v7 h fun v8 h=>
 az v8 (
 BX v4 a1 N5 v7 v8 l6 h κ) (
 κ (.pointer none) h)
theorem Km (a0 a1:Value) (h:Heap) (κ:KQ):aJ prog 243 [a0,a1] h κ = (
 au False prog .eql 182 true false a0 (.pointer none) h fun v0 h=>
 az v0 (
 κ (.pointer none) h) (
 BY a0 a1 h κ)) := by kernel_rfl
theorem S1 (a0:Value) (h:Heap) (κ:KQ):aJ prog 244 [a0] h κ = (
 au False prog .eql 182 true false a0 (.pointer none) h fun v0 h=>
 az v0 (
 κ (.int .i64 1) h) (
 κ (.int .i64 5) h)) := by kernel_rfl
def BZ (b7:Nat) (v10:Value) (b3:Nat) (h:Heap) (κ:KQ):Prop :=
 ay (fieldAddrB none 0 (ptrTo b7) h fun v _=>some v) h fun iS h=>
 ay (fieldAddrB none 2 iS h fun v _=>some v) h fun v37 h=>
 ay (load1 none v37 h fun v _=>some v) h fun j0 h=>
 ay (some v10) h fun v39 h=>
 ay (fieldAddrB none 0 (ptrTo b7) h fun v _=>some v) h fun v40 h=>
 ay (fieldAddrB none 2 v40 h fun v _=>some v) h fun v41 h=>
 ay (load1 none v41 h fun v _=>some v) h fun lH h=>
 ay (some v10) h fun qS h=>
 ay (fieldAddrB none 0 (ptrTo b7) h fun v _=>some v) h fun v44 h=>
 ay (fieldAddrB none 2 v44 h fun v _=>some v) h fun v45 h=>
 ay (load1 none v45 h fun v _=>some v) h fun v46 h=>
 ay (some v10) h fun rO h=>
 ay (av none 5 v46 rO h fun v _=>some v) h fun mL h=>
 ay (fieldAddrB none 2 mL h fun v _=>some v) h fun v49 h=>
 ay (load1 none v49 h fun v _=>some v) h fun v50 h=>
 ay (av none 5 j0 v39 h fun v _=>some v) h fun v51 h=>
 ay (fieldAddrB none 3 v51 h fun v _=>some v) h fun lS h=>
 aG False 1 lS v50 h fun v53 h=>
 cZ ((eU (fieldAddrB none 0 (ptrTo b7) h fun v _=>some v) v40) && ((eU (fieldAddrB none 2 v40 h fun v _=>some v) v41) && ((eU (load1 none v41 h fun v _=>some v) lH) && ((eU (some v10) qS) && true)))) (ay (av none 5 lH qS h fun v _=>some v) h fun v54 h=>
 ay (fieldAddrB none 4 v54 h fun v _=>some v) h fun v55 h=>
 aG False 1 v55 (.int .i64 0) h fun nK h=>
 fieldAddrB False 0 (ptrTo b7) h fun mA h=>
 aI False 4 mA h fun v58 h=>
 aG False 4 (ptrTo b3) v58 h fun v59 h=>
 aI False 4 (ptrTo b3) h fun v60 _ => κ (Value.tuple (Array.mk [v60,(.int .i64 0)])) h)
def B0 (b7:Nat) (v10 a1:Value) (b3:Nat) (h:Heap) (κ:KQ):Prop :=
 fieldAddrB False 0 (ptrTo b7) h fun v25 h=>
 fieldAddrB False 2 v25 h fun v26 h=>
 load1 False v26 h fun v27 h=>
 av False 5 v27 v10 h fun v28 h=>
 aI False 5 v28 h fun nJ h=>
 CallW prog 237 [nJ] h fun v30 h=>
 iX False .not v30 h fun v31 h=>
 az v31 (
 aI False 4 (ptrTo b7) h fun v32 h=>
 CallW prog 288 [v32,a1] h fun v33 h=>
 aG False 4 (ptrTo b3) v33 h fun ig h=>
 aI False 4 (ptrTo b3) h fun v35 _ => κ (Value.tuple (Array.mk [v35,(.int .i64 0)])) h) (
 BZ b7 v10 b3 h κ)
def B1 (b7:Nat) (v10:Value) (b3:Nat) (a1:Value) (h:Heap) (κ:KQ):Prop :=
 fieldAddrB False 0 (ptrTo b7) h fun bR h=>
 fieldAddrB False 2 bR h fun v16 h=>
 load1 False v16 h fun v17 h=>
 av False 5 v17 v10 h fun cM h=>
 aI False 5 cM h fun v19 h=>
 CallW prog 192 [v19] h fun v20 h=>
 iX False .not v20 h fun v21 h=>
 az v21 (
 bJ False [] [] [(.int .i64 0),(.int .i64 0),(.slice none 0 0),(.int .i64 0)] fun abm=>
 aG False 4 (ptrTo b3) (Value.agg (Array.mk abm)) h fun v23 h=>
 aI False 4 (ptrTo b3) h fun v24 _ => κ (Value.tuple (Array.mk [v24,(.int .i64 7)])) h) (
 B0 b7 v10 a1 b3 h κ)
theorem S2 (a0 a1:Value) (h:Heap) (κ:KQ):aJ prog 245 [a0,a1] h κ = (
 aF False (Value.cells a0).toList 81 false fun o0 => an False o0 h fun b1 h=>
 aF False [(.int .i64 0),(.int .i64 0),(.slice none 0 0),(.int .i64 0)] 81 false fun o2 => an False o2 h fun b3 h=>
 aI False 4 (ptrTo b1) h fun v4 h=>
 CallW prog 287 [v4] h fun v5 h=>
 aF False [(.int .i64 0),(.int .i64 0),(.slice none 0 0),(.int .i64 0)] 305 false fun o6 => an False o6 h fun b7 h=>
 aG False 4 (ptrTo b7) v5 h fun v8 h=>
 aI False 4 (ptrTo b7) h fun v9 h=>
 CallW prog 236 [v9,a1] h fun v10 h=>
 au False prog .lss 3 true false v10 (.int .i64 0) h fun v11 h=>
 az v11 (
 bJ False [] [] [(.int .i64 0),(.int .i64 0),(.slice none 0 0),(.int .i64 0)] fun S3=>
 aG False 4 (ptrTo b3) (Value.agg (Array.mk S3)) h fun bN h=>
 aI False 4 (ptrTo b3) h fun bM _ => κ (Value.tuple (Array.mk [bM,(.int .i64 5)])) h) (
 B1 b7 v10 b3 a1 h κ)) := by kernel_rfl
def B3 (a0 a1:Value) (h:Heap) (κ:KQ):Prop :=
 aM False a0 h fun v3 h=>
 fieldAddrB False 1 v3 h fun v4 h=>
 load1 False v4 h fun v5 h=>
 av False 1 v5 a1 h fun v6 h=>
 aG False 1 v6 (.bool false) h fun v7 h=>
 aM False a0 h fun v8 h=>
 fieldAddrB False 0 v8 h fun v9 h=>
 CallW prog 146 [(Value.iface 240 v9),(Value.iface 3 a1)] h fun v10 h=>
 κ (.int .i64 0) h
theorem S4 (a0 a1:Value) (h:Heap) (κ:KQ):aJ prog 246 [a0,a1] h κ = (
 au False prog .eql 144 true false a0 (.pointer none) h fun v0 h=>
 az v0 (
 κ (.int .i64 1) h) (
 CallW prog 242 [a0,a1] h fun v1 h=>
 iX False .not v1 h fun v2 h=>
 az v2 (
 κ (.int .i64 5) h) (
 B3 a0 a1 h κ))) := by kernel_rfl
def B4 (a0:Value) (b1:Nat) (N7:List Value→Heap→Prop) (v9 v10 v11 v12:Value) (h:Heap):Prop :=
 ay (some a0) h fun bN h=>
 ay (aM none bN h fun v _=>some v) h fun bM h=>
 ay (fieldAddrB none 2 bM h fun v _=>some v) h fun bR h=>
 ay (load1 none bR h fun v _=>some v) h fun v16 h=>
 ay (fieldAddrB none 0 (ptrTo b1) h fun v _=>some v) h fun v17 h=>
 ay (aI none 2 v17 h fun v _=>some v) h fun cM h=>
 kg False prog 36 v16 cM h fun v19 h=>
 N7 [v9,v10,v11,v12,bN,bM,bR,v16,v17,cM,undef,undef,undef,undef,undef,undef] h
def B5 (a0:Value) (b1:Nat) (N7:List Value→Heap→Prop) (v9 v10 v11 v12:Value) (h:Heap):Prop :=
 ay (some a0) h fun v20 h=>
 ay (aM none v20 h fun v _=>some v) h fun v21 h=>
 ay (fieldAddrB none 2 v21 h fun v _=>some v) h fun v22 h=>
 ay (load1 none v22 h fun v _=>some v) h fun v23 h=>
 ay (fieldAddrB none 0 (ptrTo b1) h fun v _=>some v) h fun v24 h=>
 ay (aI none 2 v24 h fun v _=>some v) h fun v25 h=>
 bW False prog 36 v23 v25 (ptrTo b1) h fun v26 h=>
 N7 [v9,v10,v11,v12,undef,undef,undef,undef,undef,undef,v20,v21,v22,v23,v24,v25] h
def vP (b1:Nat) (a0:Value) (N7:List Value→Heap→Prop) (h:Heap):Prop :=
 fieldAddrB False 2 (ptrTo b1) h fun v9 h=>
 load1 False v9 h fun v10 h=>
 bz False v10 h fun v11 h=>
 au False prog .eql 3 true false v11 (.int .i64 0) h fun v12 h=>
 az v12 (
 B4 a0 b1 N7 v9 v10 v11 v12 h) (
 B5 a0 b1 N7 v9 v10 v11 v12 h)
theorem S5 (a0 a1:Value) (h:Heap) (κ:KQ):aJ prog 247 [a0,a1] h κ = (
 aF False (Value.cells a1).toList 81 false fun o0 => an False o0 h fun b1 h=>
 aI False 4 (ptrTo b1) h fun v2 h=>
 CallW prog 289 [v2] h fun v3 h=>
 aq False 0 v3 h fun v4 h=>
 aq False 1 v3 h fun v5 h=>
 aG False 4 (ptrTo b1) v4 h fun v6 h=>
 dw (fun N7=>
 vP b1 a0 N7 h) fun l8 h=>
 κ v5 h) := by kernel_rfl
def Kn (a0:Value) (l2:List Value) (a1:Value) (N1:List Value→Heap→Prop) (v3:Value) (h:Heap) (κ:KQ):Prop :=
 av False 3 a0 (slot l2 12) h fun v4 h=>
 aI False 3 v4 h fun v5 h=>
 ic prog a1 [v5] h fun v6 h=>
 az v6 (
 κ (slot l2 12) h) (
 au False prog .add 3 true false (slot l2 12) (.int .i64 1) h fun v7 h=>
 N1 [v3,(slot l2 12),(slot l2 12),a1,a0,(slot l2 12),v4,v5,v6,(slot l2 9),(slot l2 10),v7,v7] h)
theorem S6 (a0 a1:Value) (h:Heap) (κ:KQ):aJ prog 248 [a0,a1] h κ = (
 bz False a0 h fun v0 h=>
 ej [undef,undef,undef,undef,undef,undef,undef,undef,undef,undef,(.int .i64 0),undef,(.int .i64 0)] h fun l2 h N1=>
 au False prog .lss 3 false false (slot l2 12) v0 h fun v3 h=>
 az v3 (
 Kn a0 l2 a1 N1 v3 h κ) (
 κ (.int .i64 (-1)) h)) := by kernel_rfl
def B6 (v12 cM:Value) (h:Heap) (κ:KQ):Prop :=
 aM False v12 h fun v20 h=>
 fieldAddrB False 2 v20 h fun v21 h=>
 load1 False v21 h fun v22 h=>
 av False 5 v22 cM h fun v23 h=>
 fieldAddrB False 0 v23 h fun v24 h=>
 load1 False v24 h fun v25 h=>
 κ (Value.tuple (Array.mk [v25,(.bool true)])) h
def B7 (v12:Value) (b3:Nat) (h:Heap) (κ:KQ):Prop :=
 aM False v12 h fun bR h=>
 fieldAddrB False 2 bR h fun v16 h=>
 load1 False v16 h fun v17 h=>
 CallW prog 268 [v17,(Value.func (.func 290) (Array.mk []) (Array.mk [(ptrTo b3)]))] h fun cM h=>
 au False prog .lss 3 true false cM (.int .i64 0) h fun v19 h=>
 az v19 (
 κ (Value.tuple (Array.mk [(.int .i64 0),(.bool false)])) h) (
 B6 v12 cM h κ)
def vQ (a0:Value) (b1 b3:Nat) (h:Heap) (κ:KQ):Prop :=
 ay (some a0) h fun v5 h=>
 ay (aM none v5 h fun v _=>some v) h fun v6 h=>
 ay (fieldAddrB none 2 v6 h fun v _=>some v) h fun v7 h=>
 ay (load1 none v7 h fun v _=>some v) h fun v8 h=>
 ay (aI none 2 (ptrTo b1) h fun v _=>some v) h fun v9 h=>
 ay (c8 none prog 36 (.pointer none) true v8 v9 h fun v _=>some v) h fun v10 h=>
 ay (some v10) h fun v11 h=>
 ay (aq none 0 v11 h fun v _=>some v) h fun v12 h=>
 ay (aq none 1 v11 h fun v _=>some v) h fun bN h=>
 cZ ((eU (aq none 1 v11 h fun v _=>some v) bN) && true) (iX False .not bN h fun bM h=>
 az bM (
 κ (Value.tuple (Array.mk [(.int .i64 0),(.bool false)])) h) (
 B7 v12 b3 h κ))
theorem S7 (a0 a1 a2:Value) (h:Heap) (κ:KQ):aJ prog 250 [a0,a1,a2] h κ = (
 aF False (Value.cells a1).toList 36 false fun o0 => an False o0 h fun b1 h=>
 aF False (Value.cells a2).toList 3 false fun o2 => an False o2 h fun b3 h=>
 au False prog .eql 182 true false a0 (.pointer none) h fun v4 h=>
 az v4 (
 κ (Value.tuple (Array.mk [(.int .i64 0),(.bool false)])) h) (
 vQ a0 b1 b3 h κ)) := by kernel_rfl
theorem S8 (a0 a1:Value) (h:Heap) (κ:KQ):aJ prog 253 [a0,a1] h κ = (
 CallW prog 201 [a0,a1] h fun v0 h=>
 au False prog .eql 182 true false v0 (.pointer none) h fun v1 h=>
 az v1 (
 CallW prog 203 [a0] h fun v2 h=>
 κ (Value.tuple (Array.mk [(.slice none 0 0),v2])) h) (
 CallW prog 291 [v0,a1] h fun v3 h=>
 aq False 0 v3 h fun v4 h=>
 aq False 1 v3 h fun v5 h=>
 κ (Value.tuple (Array.mk [v4,v5])) h)) := by kernel_rfl
def vR (a0:Value) (b1:Nat) (Zs:List Value→Heap→Prop) (v23 v26:Value) (h:Heap) (κ:KQ):Prop :=
 ay (some a0) h fun v27 h=>
 ay (aM none v27 h fun v _=>some v) h fun v28 h=>
 ay (fieldAddrB none 2 v28 h fun v _=>some v) h fun nJ h=>
 ay (load1 none nJ h fun v _=>some v) h fun v30 h=>
 ay (jG none v30 h fun v _=>some v) h fun v31 h=>
 ay (some a0) h fun v32 h=>
 ay (aM none v32 h fun v _=>some v) h fun v33 h=>
 ay (fieldAddrB none 0 v33 h fun v _=>some v) h fun ig h=>
 ay (load1 none ig h fun v _=>some v) h fun v35 h=>
 ay (au none prog .geq 3 false false v31 v35 h fun v _=>some v) h fun iS h=>
 az iS (
 κ (Value.tuple (Array.mk [(.int .i64 0),(.bool false),(.int .i64 8)])) h) (
 aI False 2 (ptrTo b1) h fun v37 h=>
 bJ False [(0,2)] [v37] [(.int .i64 0),(.int .i64 0),(.slice none 0 0),(.int .i64 0)] fun Xi=>
 aF False (Value.cells (Value.agg (Array.mk Xi))).toList 81 false fun o39 => an False o39 h fun RV h=>
 Zs [v23,v26,v27,v28,nJ,v30,v31,v32,v33,ig,v35,iS,(.int .i64 0),(.bool false),(.int .i64 0),v37,(Value.agg (Array.mk Xi)),(ptrTo RV),(ptrTo RV)] h)
def B8 (Xj:List Value) (v45 a2 a3 a0:Value) (h:Heap) (κ:KQ):Prop :=
 aM False (slot Xj 18) h fun mL h=>
 aI False 4 mL h fun v49 h=>
 CallW prog 293 [v49,v45,a2,a3] h fun v50 h=>
 aq False 0 v50 h fun v51 h=>
 aq False 1 v50 h fun lS h=>
 aq False 2 v50 h fun v53 h=>
 aF False [(.int .i64 0),(.int .i64 0),(.slice none 0 0),(.int .i64 0)] 81 false fun o54 => an False o54 h fun b55 h=>
 aG False 4 (ptrTo b55) v51 h fun nK h=>
 aI False 4 (ptrTo b55) h fun mA h=>
 CallW prog 247 [a0,mA] h fun v58 h=>
 κ (Value.tuple (Array.mk [v45,lS,(.int .i64 0)])) h
def vS (a0:Value) (Xj:List Value) (a2 a3:Value) (h:Heap) (κ:KQ):Prop :=
 aM False a0 h fun v41 h=>
 fieldAddrB False 1 v41 h fun lH h=>
 load1 False lH h fun qS h=>
 CallW prog 292 [qS] h fun v44 h=>
 aq False 0 v44 h fun v45 h=>
 aq False 1 v44 h fun v46 h=>
 au False prog .neq 26 true false v46 (.int .i64 0) h fun rO h=>
 az rO (
 κ (Value.tuple (Array.mk [(.int .i64 0),(.bool false),(.int .i64 8)])) h) (
 B8 Xj v45 a2 a3 a0 h κ)
def vT (a0:Value) (b1:Nat) (a2 a3:Value) (h:Heap) (κ:KQ):Prop :=
 ay (some a0) h fun bR h=>
 ay (aM none bR h fun v _=>some v) h fun v16 h=>
 ay (fieldAddrB none 2 v16 h fun v _=>some v) h fun v17 h=>
 ay (load1 none v17 h fun v _=>some v) h fun cM h=>
 ay (aI none 2 (ptrTo b1) h fun v _=>some v) h fun v19 h=>
 ay (c8 none prog 36 (.pointer none) true cM v19 h fun v _=>some v) h fun v20 h=>
 ay (some v20) h fun v21 h=>
 ay (aq none 0 v21 h fun v _=>some v) h fun v22 h=>
 ay (aq none 1 v21 h fun v _=>some v) h fun v23 h=>
 cZ ((eU (aq none 1 v21 h fun v _=>some v) v23) && true) (dw (fun Zs=>
 iX False .not v23 h fun v26 h=>
 az v26 (
 vR a0 b1 Zs v23 v26 h κ) (
 Zs [v23,v26,undef,undef,undef,undef,undef,undef,undef,undef,undef,undef,(.int .i64 0),(.bool false),(.int .i64 0),undef,undef,undef,v22] h)) fun Xj h=>
 vS a0 Xj a2 a3 h κ)
def B9 (b1:Nat) (a0 a2 a3:Value) (h:Heap) (κ:KQ):Prop :=
 aI False 2 (ptrTo b1) h fun v11 h=>
 CallW prog 250 [a0,v11,a2] h fun v12 h=>
 aq False 0 v12 h fun bN h=>
 aq False 1 v12 h fun bM h=>
 az bM (
 κ (Value.tuple (Array.mk [(.int .i64 0),(.bool false),(.int .i64 4)])) h) (
 vT a0 b1 a2 a3 h κ)
def B_ (a3:Value) (b1:Nat) (a0 a2:Value) (h:Heap) (κ:KQ):Prop :=
 au False prog .eql 37 true false a3 (.int .i64 0) h fun v3 h=>
 ag (ai v3 false) (fun K4=>
 K4 a3 h) h fun v5 h=>
 ag (ai v3 false) (fun K6=>
 CallW prog 73 [v5] h K6) h fun v7 h=>
 ag (ai v3 false) (fun K8=>
 iX False .not v7 h K8) h fun v9 h=>
 aW False v3 (.bool true) v9 h fun v10 h=>
 az v10 (
 κ (Value.tuple (Array.mk [(.int .i64 0),(.bool false),(.int .i64 2)])) h) (
 B9 b1 a0 a2 a3 h κ)
theorem S9 (a0 a1 a2 a3:Value) (h:Heap) (κ:KQ):aJ prog 255 [a0,a1,a2,a3] h κ = (
 aF False (Value.cells a1).toList 36 false fun o0 => an False o0 h fun b1 h=>
 au False prog .eql 182 true false a0 (.pointer none) h fun v2 h=>
 az v2 (
 κ (Value.tuple (Array.mk [(.int .i64 0),(.bool false),(.int .i64 1)])) h) (
 B_ a3 b1 a0 a2 h κ)) := by kernel_rfl
def vU (l3:List Value) (a1 a2 a0:Value) (h:Heap) (κ:KQ):Prop :=
 aM False (slot l3 4) h fun v8 h=>
 aI False 4 v8 h fun v9 h=>
 CallW prog 294 [v9,a1,a2] h fun v10 h=>
 aq False 0 v10 h fun v11 h=>
 aq False 1 v10 h fun v12 h=>
 aq False 2 v10 h fun bN h=>
 aF False [(.int .i64 0),(.int .i64 0),(.slice none 0 0),(.int .i64 0)] 81 false fun o14 => an False o14 h fun Zq h=>
 aG False 4 (ptrTo Zq) v11 h fun v16 h=>
 au False prog .neq 26 true false bN (.int .i64 0) h fun v17 h=>
 az v17 (
 κ (Value.tuple (Array.mk [(.bool false),bN])) h) (
 aI False 4 (ptrTo Zq) h fun cM h=>
 CallW prog 247 [a0,cM] h fun v19 h=>
 κ (Value.tuple (Array.mk [v12,(.int .i64 0)])) h)
def Ca (a0 a1 a2:Value) (h:Heap) (κ:KQ):Prop :=
 CallW prog 243 [a0,a1] h fun v1 h=>
 dw (fun N2=>
 au False prog .eql 228 true false v1 (.pointer none) h fun v4 h=>
 az v4 (
 bJ False [] [] [(.int .i64 0),(.int .i64 0),(.slice none 0 0),(.int .i64 0)] fun U_=>
 aF False (Value.cells (Value.agg (Array.mk U_))).toList 81 false fun o6 => an False o6 h fun b7 h=>
 N2 [v1,v4,(Value.agg (Array.mk U_)),(ptrTo b7),(ptrTo b7)] h) (
 N2 [v1,v4,undef,undef,v1] h)) fun l3 h=>
 vU l3 a1 a2 a0 h κ
theorem S_ (a0 a1 a2:Value) (h:Heap) (κ:KQ):aJ prog 256 [a0,a1,a2] h κ = (
 au False prog .eql 182 true false a0 (.pointer none) h fun v0 h=>
 az v0 (
 κ (Value.tuple (Array.mk [(.bool false),(.int .i64 1)])) h) (
 Ca a0 a1 a2 h κ)) := by kernel_rfl
theorem Ta (a0:Value) (h:Heap) (κ:KQ):aJ prog 257 [a0] h κ = (
 au False prog .eql 103 true false a0 (.pointer none) h fun v0 h=>
 az v0 (
 κ (.int .i64 0) h) (
 aM False a0 h fun v1 h=>
 fieldAddrB False 0 v1 h fun v2 h=>
 load1 False v2 h fun v3 h=>
 κ v3 h)) := by kernel_rfl
def Cb (a0 a2 a3 a1:Value) (h:Heap) (κ:KQ):Prop :=
 CallW prog 205 [a0,a2,a3] h fun v5 h=>
 au False prog .geq 3 true false v5 (.int .i64 0) h fun v6 h=>
 az v6 (
 κ (.int .i64 4) h) (
 aM False a0 h fun v7 h=>
 fieldAddrB False 1 v7 h fun v8 h=>
 bJ False [(0,1),(1,1),(2,1)] [a1,a2,a3] [(.int .i64 0),(.int .i64 0),(.int .i64 0)] fun Se=>
 CallW prog 146 [(Value.iface 217 v8),(Value.iface 214 (Value.agg (Array.mk Se)))] h fun v10 h=>
 κ (.int .i64 0) h)
def Cc (a0 a1 a2 a3:Value) (h:Heap) (κ:KQ):Prop :=
 aM False a0 h fun v1 h=>
 fieldAddrB False 0 v1 h fun v2 h=>
 load1 False v2 h fun v3 h=>
 au False prog .leq 2 false false a1 v3 h fun v4 h=>
 az v4 (
 κ (.int .i64 2) h) (
 Cb a0 a2 a3 a1 h κ)
theorem Tb (a0 a1 a2 a3:Value) (h:Heap) (κ:KQ):aJ prog 258 [a0,a1,a2,a3] h κ = (
 au False prog .eql 103 true false a0 (.pointer none) h fun v0 h=>
 az v0 (
 κ (.int .i64 1) h) (
 Cc a0 a1 a2 a3 h κ)) := by kernel_rfl
def Cd (a0 a1:Value) (h:Heap) (κ:KQ):Prop :=
 aM False a0 h fun v4 h=>
 fieldAddrB False 0 v4 h fun v5 h=>
 load1 False v5 h fun v6 h=>
 av False 1 v6 a1 h fun v7 h=>
 load1 False v7 h fun v8 h=>
 au False prog .or 3 true false v8 (.int .i64 1) h fun v9 h=>
 av False 1 v6 a1 h fun v10 h=>
 aG False 1 v10 v9 h fun v11 h=>
 κ (Value.tuple (Array.mk [(.bool false),(.int .i64 0)])) h
def Ce (a0 a1:Value) (h:Heap) (κ:KQ):Prop :=
 CallW prog 99 [a0,a1,(.int .i64 1)] h fun v2 h=>
 az v2 (
 κ (Value.tuple (Array.mk [(.bool false),(.int .i64 4)])) h) (
 CallW prog 296 [a0,a1] h fun v3 h=>
 az v3 (
 κ (Value.tuple (Array.mk [(.bool true),(.int .i64 0)])) h) (
 Cd a0 a1 h κ))
theorem Tc (a0 a1:Value) (h:Heap) (κ:KQ):aJ prog 260 [a0,a1] h κ = (
 CallW prog 136 [a0,a1] h fun v0 h=>
 au False prog .neq 26 true false v0 (.int .i64 0) h fun v1 h=>
 az v1 (
 κ (Value.tuple (Array.mk [(.bool false),v0])) h) (
 Ce a0 a1 h κ)) := by kernel_rfl
def Ko (a0:Value) (l1:List Value) (gZ:List Value) (a4 v2:Value) (l8:List Value) (N0:List Value→Heap→Prop) (v3 v5 v12 bN bM:Value) (kU:List Value) (v33 ig v35 v37 v39 v41 qS v45 rO v49 v51 v53 v55 mA v59 mP vD:Value) (h:Heap):Prop :=
 CallW prog 304 [a0,(slot l1 127),(slot l1 140),(slot gZ 13),a4] h fun v64 h=>
 aq False 0 v64 h fun qs h=>
 aq False 1 v64 h fun v66 h=>
 au False prog .sub 3 false false qs (slot l1 127) h fun v67 h=>
 au False prog .sub 3 false false (slot l1 140) qs h fun tM h=>
 au False prog .quo 3 true false v2 (.int .i64 8) h fun xJ h=>
 au False prog .lss 3 false false v67 tM h fun v70 h=>
 az v70 (
 au False prog .geq 3 false false v67 xJ h fun xK h=>
 CallW prog 263 [a0,(slot l1 127),qs,(slot l8 9),a4] h fun v72 h=>
 au False prog .add 3 true false qs (.int .i64 1) h fun FJ h=>
 N0 [(slot l1 140),(slot l1 127),v2,v2,v2,v3,(slot l1 6),(slot l1 7),(slot l1 8),(slot l1 9),(slot l1 10),(slot l1 27),v5,(slot l1 13),(slot l1 14),(slot l1 15),(slot l1 16),(slot l1 17),(slot l8 0),(slot l8 1),(slot l8 2),(slot l8 3),(slot l8 4),(slot l8 5),(slot l8 6),(slot l8 7),(slot l8 8),(slot l8 9),a0,(slot l1 127),(slot l1 140),a4,v12,v12,bN,bM,(slot gZ 0),(slot gZ 1),(slot gZ 2),(slot gZ 3),(slot gZ 4),(slot gZ 5),(slot gZ 6),(slot gZ 7),(slot gZ 8),(slot gZ 9),(slot gZ 10),(slot gZ 11),(slot gZ 12),(slot gZ 13),(slot gZ 14),(slot kU 0),(slot kU 1),(slot kU 2),(slot kU 3),(slot kU 4),(slot kU 5),(slot kU 6),(slot kU 7),(slot kU 8),(slot kU 9),(slot kU 10),(slot kU 11),(slot kU 12),v33,ig,v35,v37,v39,v41,qS,v45,rO,v49,v51,v53,v55,mA,v59,mP,vD,(slot l1 81),(slot l1 82),(slot l1 83),(slot l1 84),(slot l1 85),(slot l1 86),(slot l1 87),(slot l1 88),a0,(slot l1 127),(slot l1 140),(slot gZ 13),a4,v64,v64,qs,v66,qs,v66,v66,v66,qs,(slot l1 127),v67,(slot l1 140),qs,tM,v67,tM,v2,xJ,xJ,v67,tM,v70,v67,xJ,xK,a0,(slot l1 127),qs,(slot l8 9),a4,v72,qs,FJ,FJ,(slot l1 128),(slot l1 129),(slot l1 130),xK,(slot l1 132),(slot l1 133),(slot l1 134),(slot l1 135),(slot l1 136),(slot l1 137),(slot l1 138),(slot l1 139),(slot l1 140)] h) (
 au False prog .geq 3 false false tM xJ h fun DB h=>
 au False prog .add 3 true false qs (.int .i64 1) h fun v75 h=>
 CallW prog 263 [a0,v75,(slot l1 140),(slot l8 9),a4] h fun v76 h=>
 N0 [(slot l1 140),(slot l1 127),v2,v2,v2,v3,(slot l1 6),(slot l1 7),(slot l1 8),(slot l1 9),(slot l1 10),(slot l1 27),v5,(slot l1 13),(slot l1 14),(slot l1 15),(slot l1 16),(slot l1 17),(slot l8 0),(slot l8 1),(slot l8 2),(slot l8 3),(slot l8 4),(slot l8 5),(slot l8 6),(slot l8 7),(slot l8 8),(slot l8 9),a0,(slot l1 127),(slot l1 140),a4,v12,v12,bN,bM,(slot gZ 0),(slot gZ 1),(slot gZ 2),(slot gZ 3),(slot gZ 4),(slot gZ 5),(slot gZ 6),(slot gZ 7),(slot gZ 8),(slot gZ 9),(slot gZ 10),(slot gZ 11),(slot gZ 12),(slot gZ 13),(slot gZ 14),(slot kU 0),(slot kU 1),(slot kU 2),(slot kU 3),(slot kU 4),(slot kU 5),(slot kU 6),(slot kU 7),(slot kU 8),(slot kU 9),(slot kU 10),(slot kU 11),(slot kU 12),v33,ig,v35,v37,v39,v41,qS,v45,rO,v49,v51,v53,v55,mA,v59,mP,vD,(slot l1 81),(slot l1 82),(slot l1 83),(slot l1 84),(slot l1 85),(slot l1 86),(slot l1 87),(slot l1 88),a0,(slot l1 127),(slot l1 140),(slot gZ 13),a4,v64,v64,qs,v66,qs,v66,v66,v66,qs,(slot l1 127),v67,(slot l1 140),qs,tM,v67,tM,v2,xJ,xJ,v67,tM,v70,(slot l1 116),(slot l1 117),(slot l1 118),(slot l1 119),(slot l1 120),(slot l1 121),(slot l1 122),(slot l1 123),(slot l1 124),(slot l1 125),(slot l1 126),(slot l1 127),tM,xJ,DB,DB,a0,qs,v75,(slot l1 140),(slot l8 9),a4,v76,qs,qs] h)
def Kp (l1:List Value) (gZ:List Value) (a0 a4:Value) (Zt:List Value→Heap→Prop) (h:Heap) (κ:KQ):Prop :=
 ag (ai (slot l1 131) true) (fun Sa=>
 Sa (slot l1 101) h) h fun v25 h=>
 aW False (slot l1 131) v25 (.bool false) h fun v26 h=>
 ag (ai v26 true) (fun J5=>
 J5 (slot gZ 14) h) h fun v28 h=>
 ag (ai v26 true) (fun J6=>
 au False prog .eql 245 true false v28 (.int .i64 1) h J6) h fun v30 h=>
 aW False v26 v30 (.bool false) h fun v31 h=>
 az v31 (
 CallW prog 302 [a0,(slot l1 127),(slot l1 140),a4] h fun v32 h=>
 az v32 (
 κ (Value.tuple (Array.mk [])) h) (
 Zt [(slot l1 131),(slot l1 131),v25,v26,v26,v28,v30,v31,a0,(slot l1 127),(slot l1 140),a4,v32] h)) (
 Zt [(slot l1 131),(slot l1 131),v25,v26,v26,v28,v30,v31,(slot l1 59),(slot l1 60),(slot l1 61),(slot l1 62),(slot l1 63)] h)
def Kq (l1:List Value) (a4 a0:Value) (gZ:List Value) (N0:List Value→Heap→Prop) (v2 v3 v5:Value) (l8:List Value) (v12 bN bM:Value) (kU:List Value) (h:Heap):Prop :=
 ay (some (slot l1 127)) h fun v33 h=>
 ay (au none prog .gtr 3 true false v33 (.int .i64 0) h fun v _=>some v) h fun ig h=>
 ay (some ig) h fun v35 h=>
 ag (ai v35 true) (fun K36=>
 ay (some a4) h K36) h fun v37 h=>
 ag (ai v35 true) (fun K38=>
 ay (some a0) h K38) h fun v39 h=>
 ag (ai v35 true) (fun Wf=>
 ay (some (slot l1 127)) h Wf) h fun v41 h=>
 ag (ai v35 true) (fun Wg=>
 ay (au none prog .sub 3 true false v41 (.int .i64 1) h fun v _=>some v) h Wg) h fun qS h=>
 ag (ai v35 true) (fun Wh=>
 ay (av none 2 v39 qS h fun v _=>some v) h Wh) h fun v45 h=>
 ag (ai v35 true) (fun K46=>
 ay (aI none 2 v45 h fun v _=>some v) h K46) h fun rO h=>
 ag (ai v35 true) (fun K48=>
 ay (some a0) h K48) h fun v49 h=>
 ag (ai v35 true) (fun K50=>
 ay (some (slot gZ 13)) h K50) h fun v51 h=>
 ag (ai v35 true) (fun K52=>
 ay (av none 2 v49 v51 h fun v _=>some v) h K52) h fun v53 h=>
 ag (ai v35 true) (fun K54=>
 ay (aI none 2 v53 h fun v _=>some v) h K54) h fun v55 h=>
 ag (ai v35 true) (fun K56=>
 ic prog v37 [rO,v55] h K56) h fun mA h=>
 ag (ai v35 true) (fun K58=>
 ay (au none prog .lss 3 true false mA (.int .i64 0) h fun v _=>some v) h K58) h fun v59 h=>
 ag (ai v35 true) (fun K60=>
 ay (iX none .not v59 h fun v _=>some v) h K60) h fun mP h=>
 ay (aW none v35 mP (.bool false) h fun v _=>some v) h fun vD h=>
 az vD (
 CallW prog 303 [a0,(slot l1 127),(slot l1 140),(slot gZ 13),a4] h fun o9 h=>
 N0 [(slot l1 140),(slot l1 127),v2,v2,v2,v3,(slot l1 6),(slot l1 7),(slot l1 8),(slot l1 9),(slot l1 10),(slot l1 27),v5,(slot l1 13),(slot l1 14),(slot l1 15),(slot l1 16),(slot l1 17),(slot l8 0),(slot l8 1),(slot l8 2),(slot l8 3),(slot l8 4),(slot l8 5),(slot l8 6),(slot l8 7),(slot l8 8),(slot l8 9),a0,(slot l1 127),(slot l1 140),a4,v12,v12,bN,bM,(slot gZ 0),(slot gZ 1),(slot gZ 2),(slot gZ 3),(slot gZ 4),(slot gZ 5),(slot gZ 6),(slot gZ 7),(slot gZ 8),(slot gZ 9),(slot gZ 10),(slot gZ 11),(slot gZ 12),(slot gZ 13),(slot gZ 14),(slot kU 0),(slot kU 1),(slot kU 2),(slot kU 3),(slot kU 4),(slot kU 5),(slot kU 6),(slot kU 7),(slot kU 8),(slot kU 9),(slot kU 10),(slot kU 11),(slot kU 12),v33,ig,v35,v37,v39,v41,qS,v45,rO,v49,v51,v53,v55,mA,v59,mP,vD,a0,(slot l1 127),(slot l1 140),(slot gZ 13),a4,o9,o9,o9,(slot l1 89),(slot l1 90),(slot l1 91),(slot l1 92),(slot l1 93),(slot l1 94),(slot l1 95),(slot l1 96),(slot l1 97),(slot l1 98),(slot l1 99),(slot l1 100),(slot l1 101),(slot l1 102),(slot l1 103),(slot l1 104),(slot l1 105),(slot l1 106),(slot l1 107),(slot l1 108),(slot l1 109),(slot l1 110),(slot l1 111),(slot l1 112),(slot l1 113),(slot l1 114),(slot l1 115),(slot l1 116),(slot l1 117),(slot l1 118),(slot l1 119),(slot l1 120),(slot l1 121),(slot l1 122),(slot l1 123),(slot l1 124),(slot l1 125),(slot l1 126),o9,(slot l1 128),(slot l1 129),(slot l1 130),(slot l1 131),(slot l1 132),(slot l1 133),(slot l1 134),(slot l1 135),(slot l1 136),(slot l1 137),(slot l1 138),(slot l1 139),(slot l1 140)] h) (
 Ko a0 l1 gZ a4 v2 l8 N0 v3 v5 v12 bN bM kU v33 ig v35 v37 v39 v41 qS v45 rO v49 v51 v53 v55 mA v59 mP vD h)
def Kr (bM a0:Value) (l1:List Value) (a4 bN:Value) (Zu:List Value→Heap→Prop) (h:Heap):Prop :=
 au False prog .eql 245 true false bM (.int .i64 2) h fun v17 h=>
 az v17 (
 CallW prog 301 [a0,(slot l1 127),(slot l1 140),a4] h fun cM h=>
 au False prog .sub 3 true false (slot l1 140) (.int .i64 1) h fun v19 h=>
 au False prog .sub 3 false false bN (slot l1 127) h fun v20 h=>
 au False prog .sub 3 false false v19 v20 h fun v21 h=>
 Zu [bM,v17,a0,(slot l1 127),(slot l1 140),a4,cM,(slot l1 140),v19,bN,(slot l1 127),v20,v21,v21,(.int .i64 1)] h) (
 Zu [bM,v17,(slot l1 38),(slot l1 39),(slot l1 40),(slot l1 41),(slot l1 42),(slot l1 43),(slot l1 44),(slot l1 45),(slot l1 46),(slot l1 47),(slot l1 48),bN,bM] h)
def Ks (a0:Value) (l1:List Value) (a4:Value) (N0:List Value→Heap→Prop) (v2 v3 v5:Value) (l8:List Value) (h:Heap) (κ:KQ):Prop :=
 CallW prog 300 [a0,(slot l1 127),(slot l1 140),a4] h fun v12 h=>
 aq False 0 v12 h fun bN h=>
 aq False 1 v12 h fun bM h=>
 dw (fun Zu=>
 Kr bM a0 l1 a4 bN Zu h) fun gZ h=>
 dw (fun Zt=>
 Kp l1 gZ a0 a4 Zt h κ) fun kU h=>
 Kq l1 a4 a0 gZ N0 v2 v3 v5 l8 v12 bN bM kU h
def Kt (l1:List Value) (a0 a4:Value) (N0:List Value→Heap→Prop) (v2 v3 v5:Value) (h:Heap) (κ:KQ):Prop :=
 dw (fun N7=>
 iX False .not (slot l1 131) h fun v9 h=>
 az v9 (
 CallW prog 299 [a0,(slot l1 127),(slot l1 140),a4] h fun v10 h=>
 au False prog .sub 3 true false (slot l1 27) (.int .i64 1) h fun v11 h=>
 N7 [(slot l1 131),v9,a0,(slot l1 127),(slot l1 140),a4,v10,(slot l1 27),v11,v11] h) (
 N7 [(slot l1 131),v9,(slot l1 20),(slot l1 21),(slot l1 22),(slot l1 23),(slot l1 24),(slot l1 25),(slot l1 26),(slot l1 27)] h)) fun l8 h=>
 Ks a0 l1 a4 N0 v2 v3 v5 l8 h κ
def Cf (l1:List Value) (a0 a4:Value) (N0:List Value→Heap→Prop) (h:Heap) (κ:KQ):Prop :=
 au False prog .sub 3 false false (slot l1 140) (slot l1 127) h fun v2 h=>
 au False prog .leq 3 true false v2 (.int .i64 12) h fun v3 h=>
 az v3 (
 CallW prog 297 [a0,(slot l1 127),(slot l1 140),a4] h fun v4 h=>
 κ (Value.tuple (Array.mk [])) h) (
 au False prog .eql 3 true false (slot l1 27) (.int .i64 0) h fun v5 h=>
 az v5 (
 CallW prog 298 [a0,(slot l1 127),(slot l1 140),a4] h fun v6 h=>
 κ (Value.tuple (Array.mk [])) h) (
 Kt l1 a0 a4 N0 v2 v3 v5 h κ))
theorem Td (a0 a1 a2 a3 a4:Value) (h:Heap) (κ:KQ):aJ prog 263 [a0,a1,a2,a3,a4] h κ = (
 ej [undef,undef,undef,undef,undef,undef,undef,undef,undef,undef,undef,undef,undef,undef,undef,undef,undef,undef,undef,undef,undef,undef,undef,undef,undef,undef,undef,a3,undef,undef,undef,undef,undef,undef,undef,undef,undef,undef,undef,undef,undef,undef,undef,undef,undef,undef,undef,undef,undef,undef,undef,undef,undef,undef,undef,undef,undef,undef,undef,undef,undef,undef,undef,undef,undef,undef,undef,undef,undef,undef,undef,undef,undef,undef,undef,undef,undef,undef,undef,undef,undef,undef,undef,undef,undef,undef,undef,undef,undef,undef,undef,undef,undef,undef,undef,undef,undef,undef,undef,undef,undef,(.bool true),undef,undef,undef,undef,undef,undef,undef,undef,undef,undef,undef,undef,undef,undef,undef,undef,undef,undef,undef,undef,undef,undef,undef,undef,undef,a1,undef,undef,undef,(.bool true),undef,undef,undef,undef,undef,undef,undef,undef,a2] h fun l1 h N0=>
 Cf l1 a0 a4 N0 h κ) := by kernel_rfl
theorem Te (a0 a1:Value) (h:Heap) (κ:KQ):aJ prog 269 [a0,a1] h κ = (
 aF False (Value.cells a0).toList 83 false fun o0 => an False o0 h fun b1 h=>
 fieldAddrB False 0 (ptrTo b1) h fun v2 h=>
 load1 False v2 h fun v3 h=>
 load1 False a1 h fun v4 h=>
 au False prog .eql 3 false false v3 v4 h fun v5 h=>
 κ v5 h) := by kernel_rfl
theorem Tf (a0:Value) (h:Heap) (κ:KQ):aJ prog 287 [a0] h κ = (
 aF False (Value.cells a0).toList 81 false fun o0 => an False o0 h fun b1 h=>
 aF False [(.int .i64 0),(.int .i64 0),(.slice none 0 0),(.int .i64 0)] 305 false fun o2 => an False o2 h fun b3 h=>
 fieldAddrB False 2 (ptrTo b1) h fun v4 h=>
 load1 False v4 h fun v5 h=>
 CallW prog 139 [v5] h fun v6 h=>
 fieldAddrB False 2 (ptrTo b1) h fun v7 h=>
 aG False 1 v7 v6 h fun v8 h=>
 aI False 4 (ptrTo b1) h fun v9 h=>
 bJ False [(0,4)] [v9] [(.int .i64 0),(.int .i64 0),(.slice none 0 0),(.int .i64 0)] fun abu=>
 aG False 4 (ptrTo b3) (Value.agg (Array.mk abu)) h fun v11 h=>
 aI False 4 (ptrTo b3) h fun v12 _ => κ v12 h) := by kernel_rfl
theorem Tg (a0 a1:Value) (h:Heap) (κ:KQ):aJ prog 288 [a0,a1] h κ = (
 aF False (Value.cells a0).toList 305 false fun o0 => an False o0 h fun b1 h=>
 aF False (Value.cells a1).toList 3 false fun o2 => an False o2 h fun b3 h=>
 aF False [(.int .i64 0),(.int .i64 0),(.slice none 0 0),(.int .i64 0)] 81 false fun o4 => an False o4 h fun b5 h=>
 fieldAddrB False 0 (ptrTo b1) h fun v6 h=>
 fieldAddrB False 2 v6 h fun v7 h=>
 load1 False v7 h fun v8 h=>
 CallW prog 315 [v8,(Value.func (.func 316) (Array.mk []) (Array.mk [(ptrTo b3)]))] h fun v9 h=>
 fieldAddrB False 0 (ptrTo b1) h fun v10 h=>
 fieldAddrB False 2 v10 h fun v11 h=>
 aG False 1 v11 v9 h fun v12 h=>
 fieldAddrB False 0 (ptrTo b1) h fun bN h=>
 aI False 4 bN h fun bM h=>
 aG False 4 (ptrTo b5) bM h fun bR h=>
 aI False 4 (ptrTo b5) h fun v16 _ => κ v16 h) := by kernel_rfl
def Cg (b7:Nat) (bN:Value) (Ku:List Value) (Xk:List Value→Heap→Prop) (v12 bM v16 cM v20 v22 v24 v26 v28 v30 v32 v33:Value) (h:Heap):Prop :=
 ay (fieldAddrB none 0 (ptrTo b7) h fun v _=>some v) h fun j0 h=>
 ay (fieldAddrB none 2 j0 h fun v _=>some v) h fun v39 h=>
 ay (load1 none v39 h fun v _=>some v) h fun v40 h=>
 ay (some bN) h fun v41 h=>
 ay (fieldAddrB none 0 (ptrTo b7) h fun v _=>some v) h fun lH h=>
 ay (fieldAddrB none 2 lH h fun v _=>some v) h fun qS h=>
 ay (load1 none qS h fun v _=>some v) h fun v44 h=>
 ay (some bN) h fun v45 h=>
 ay (fieldAddrB none 0 (ptrTo b7) h fun v _=>some v) h fun v46 h=>
 ay (fieldAddrB none 2 v46 h fun v _=>some v) h fun rO h=>
 ay (load1 none rO h fun v _=>some v) h fun mL h=>
 ay (some bN) h fun v49 h=>
 ay (av none 5 mL v49 h fun v _=>some v) h fun v50 h=>
 ay (fieldAddrB none 3 v50 h fun v _=>some v) h fun v51 h=>
 ay (load1 none v51 h fun v _=>some v) h fun lS h=>
 ay (av none 5 v40 v41 h fun v _=>some v) h fun v53 h=>
 ay (fieldAddrB none 2 v53 h fun v _=>some v) h fun v54 h=>
 aG False 1 v54 lS h fun v55 h=>
 cZ ((eU (fieldAddrB none 0 (ptrTo b7) h fun v _=>some v) lH) && ((eU (fieldAddrB none 2 lH h fun v _=>some v) qS) && ((eU (load1 none qS h fun v _=>some v) v44) && ((eU (some bN) v45) && true)))) (ay (av none 5 v44 v45 h fun v _=>some v) h fun nK h=>
 ay (fieldAddrB none 4 nK h fun v _=>some v) h fun mA h=>
 aG False 1 mA (.int .i64 0) h fun v58 h=>
 fieldAddrB False 0 (ptrTo b7) h fun v59 h=>
 fieldAddrB False 2 v59 h fun v60 h=>
 load1 False v60 h fun mP h=>
 av False 5 mP bN h fun vD h=>
 fieldAddrB False 0 vD h fun o9 h=>
 load1 False o9 h fun v64 h=>
 bJ False [(0,1)] [v64] (aT [(.int .i64 0)] 1) fun abv => aF False abv 3 false fun o65 => an False o65 h fun MO h=>
 bG False 3 1 [(.int .i64 0)] false (slot Ku 49) (sliceTo 1 1 MO) h fun tM h=>
 Xk [v12,bN,bN,bN,bM,bM,v16,cM,v20,v22,v24,v26,v28,v30,v32,v33,(slot Ku 16),(slot Ku 17),(slot Ku 18),(slot Ku 19),j0,v39,v40,v41,lH,qS,v44,v45,v46,rO,mL,v49,v50,v51,lS,v53,v54,nK,mA,(slot Ku 49),v59,v60,mP,bN,vD,o9,v64,(sliceTo 1 1 MO),tM,tM] h)
def Ch (b7:Nat) (v9:Value) (b3:Nat) (Ku:List Value) (Xk:List Value→Heap→Prop) (h:Heap) (κ:KQ):Prop :=
 aI False 4 (ptrTo b7) h fun v12 h=>
 CallW prog 318 [v12] h fun bN h=>
 au False prog .lss 3 true false bN (.int .i64 0) h fun bM h=>
 ag (ai bM false) (fun K15=>
 K15 (Value.func (.func 317) (Array.mk [v9]) (Array.mk [])) h) h fun v16 h=>
 ag (ai bM false) (fun R_=>
 fieldAddrB False 0 (ptrTo b7) h R_) h fun cM h=>
 ag (ai bM false) (fun Hp=>
 fieldAddrB False 2 cM h Hp) h fun v20 h=>
 ag (ai bM false) (fun Oa=>
 load1 False v20 h Oa) h fun v22 h=>
 ag (ai bM false) (fun J4=>
 J4 bN h) h fun v24 h=>
 ag (ai bM false) (fun N_=>
 av False 5 v22 v24 h N_) h fun v26 h=>
 ag (ai bM false) (fun J5=>
 aI False 5 v26 h J5) h fun v28 h=>
 ag (ai bM false) (fun J6=>
 ic prog v16 [v28] h J6) h fun v30 h=>
 ag (ai bM false) (fun Hq=>
 iX False .not v30 h Hq) h fun v32 h=>
 aW False bM (.bool true) v32 h fun v33 h=>
 az v33 (
 fieldAddrB False 0 (ptrTo b7) h fun ig h=>
 aI False 4 ig h fun v35 h=>
 aG False 4 (ptrTo b3) v35 h fun iS h=>
 aI False 4 (ptrTo b3) h fun v37 _ => κ (Value.tuple (Array.mk [v37,(slot Ku 49)])) h) (
 Cg b7 bN Ku Xk v12 bM v16 cM v20 v22 v24 v26 v28 v30 v32 v33 h)
theorem Th (a0:Value) (h:Heap) (κ:KQ):aJ prog 289 [a0] h κ = (
 aF False (Value.cells a0).toList 81 false fun o0 => an False o0 h fun b1 h=>
 aF False [(.int .i64 0),(.int .i64 0),(.slice none 0 0),(.int .i64 0)] 81 false fun o2 => an False o2 h fun b3 h=>
 aI False 4 (ptrTo b1) h fun v4 h=>
 CallW prog 287 [v4] h fun v5 h=>
 aF False [(.int .i64 0),(.int .i64 0),(.slice none 0 0),(.int .i64 0)] 305 false fun o6 => an False o6 h fun b7 h=>
 aG False 4 (ptrTo b7) v5 h fun v8 h=>
 aI False 4 (ptrTo b7) h fun v9 h=>
 ej [undef,undef,undef,undef,undef,undef,undef,undef,undef,undef,undef,undef,undef,undef,undef,undef,undef,undef,undef,(.slice none 0 0),undef,undef,undef,undef,undef,undef,undef,undef,undef,undef,undef,undef,undef,undef,undef,undef,undef,undef,undef,undef,undef,undef,undef,undef,undef,undef,undef,undef,undef,(.slice none 0 0)] h fun Ku h Xk=>
 Ch b7 v9 b3 Ku Xk h κ) := by kernel_rfl
theorem Ti (a0 a1:Value) (h:Heap) (κ:KQ):aJ prog 290 [a0,a1] h κ = (
 aF False (Value.cells a0).toList 83 false fun o0 => an False o0 h fun b1 h=>
 fieldAddrB False 1 (ptrTo b1) h fun v2 h=>
 load1 False v2 h fun v3 h=>
 load1 False a1 h fun v4 h=>
 au False prog .eql 3 false false v3 v4 h fun v5 h=>
 κ v5 h) := by kernel_rfl
def Ci (v0 a1 a0:Value) (h:Heap) (κ:KQ):Prop :=
 aM False v0 h fun v3 h=>
 aI False 4 v3 h fun v4 h=>
 CallW prog 319 [v4,a1] h fun v5 h=>
 aq False 0 v5 h fun v6 h=>
 aq False 1 v5 h fun v7 h=>
 aF False [(.int .i64 0),(.int .i64 0),(.slice none 0 0),(.int .i64 0)] 81 false fun o8 => an False o8 h fun b9 h=>
 aG False 4 (ptrTo b9) v6 h fun v10 h=>
 aM False a0 h fun v11 h=>
 fieldAddrB False 1 v11 h fun v12 h=>
 load1 False v12 h fun bN h=>
 CallW prog 246 [bN,a1] h fun bM h=>
 aI False 4 (ptrTo b9) h fun bR h=>
 CallW prog 247 [a0,bR] h fun v16 h=>
 κ (Value.tuple (Array.mk [v16,(.int .i64 0)])) h
theorem Tj (a0 a1:Value) (h:Heap) (κ:KQ):aJ prog 291 [a0,a1] h κ = (
 CallW prog 243 [a0,a1] h fun v0 h=>
 au False prog .eql 228 true false v0 (.pointer none) h fun v1 h=>
 az v1 (
 CallW prog 244 [a0] h fun v2 h=>
 κ (Value.tuple (Array.mk [(.slice none 0 0),v2])) h) (
 Ci v0 a1 a0 h κ)) := by kernel_rfl
def Cj (a0:Value) (h:Heap) (κ:KQ):Prop :=
 aM False a0 h fun v7 h=>
 fieldAddrB False 0 v7 h fun v8 h=>
 CallW prog 135 [(Value.iface 240 v8)] h fun v9 h=>
 cq False 3 (.int .i64 0) true v9 h fun v10 h=>
 aq False 0 v10 h fun v11 h=>
 aq False 1 v10 h fun v12 h=>
 aM False a0 h fun bN h=>
 fieldAddrB False 1 bN h fun bM h=>
 load1 False bM h fun bR h=>
 av False 1 bR v11 h fun v16 h=>
 aG False 1 v16 (.bool true) h fun v17 h=>
 κ (Value.tuple (Array.mk [v11,(.int .i64 0)])) h
def Ck (a0:Value) (h:Heap) (κ:KQ):Prop :=
 aM False a0 h fun v1 h=>
 fieldAddrB False 0 v1 h fun v2 h=>
 fieldAddrB False 0 v2 h fun v3 h=>
 load1 False v3 h fun v4 h=>
 CallW prog 137 [v4] h fun v5 h=>
 au False prog .eql 3 true false v5 (.int .i64 0) h fun v6 h=>
 az v6 (
 κ (Value.tuple (Array.mk [(.int .i64 0),(.int .i64 8)])) h) (
 Cj a0 h κ)
theorem Tl (a0:Value) (h:Heap) (κ:KQ):aJ prog 292 [a0] h κ = (
 au False prog .eql 144 true false a0 (.pointer none) h fun v0 h=>
 az v0 (
 κ (Value.tuple (Array.mk [(.int .i64 0),(.int .i64 1)])) h) (
 Ck a0 h κ)) := by kernel_rfl
def vV (xe Ht:Nat) (MN:List Value→Heap→Prop) (v46:Value) (h:Heap):Prop :=
 fieldAddrB False 0 (ptrTo xe) h fun v51 h=>
 fieldAddrB False 3 v51 h fun lS h=>
 load1 False lS h fun v53 h=>
 au False prog .add 3 true false v53 (.int .i64 1) h fun v54 h=>
 fieldAddrB False 0 (ptrTo xe) h fun v55 h=>
 fieldAddrB False 3 v55 h fun nK h=>
 aG False 1 nK v54 h fun mA h=>
 fieldAddrB False 0 (ptrTo xe) h fun v58 h=>
 fieldAddrB False 3 v58 h fun v59 h=>
 load1 False v59 h fun v60 h=>
 fieldAddrB False 4 (ptrTo Ht) h fun mP h=>
 aG False 1 mP v60 h fun vD h=>
 MN [v46,undef,undef,v51,lS,v53,v54,v55,nK,v58,v59,v60,mP] h
def q8 (xe Ht b7:Nat) (v46:Value) (h:Heap) (κ:KQ):Prop :=
 fieldAddrB False 0 (ptrTo xe) h fun o9 h=>
 fieldAddrB False 2 o9 h fun v64 h=>
 load1 False v64 h fun qs h=>
 aI False 5 (ptrTo Ht) h fun v66 h=>
 bJ False [(0,5)] [v66] (aT [(.int .i64 0),(.int .i64 0),(.int .i64 0),(.int .i64 0),(.int .i64 0)] 1) fun abw => aF False abw 83 false fun o67 => an False o67 h fun b68 h=>
 bG False 83 5 [(.int .i64 0),(.int .i64 0),(.int .i64 0),(.int .i64 0),(.int .i64 0)] false qs (sliceTo 1 1 b68) h fun v70 h=>
 fieldAddrB False 0 (ptrTo xe) h fun xK h=>
 fieldAddrB False 2 xK h fun v72 h=>
 aG False 1 v72 v70 h fun FJ h=>
 fieldAddrB False 0 (ptrTo xe) h fun DB h=>
 aI False 4 DB h fun v75 h=>
 aG False 4 (ptrTo b7) v75 h fun v76 h=>
 aI False 4 (ptrTo b7) h fun v77 _ => κ (Value.tuple (Array.mk [v77,v46,(.int .i64 0)])) h
def Cl (b1 b3 b5:Nat) (a3:Value) (b7:Nat) (h:Heap) (κ:KQ):Prop :=
 aI False 4 (ptrTo b1) h fun v26 h=>
 CallW prog 287 [v26] h fun v27 h=>
 aF False [(.int .i64 0),(.int .i64 0),(.slice none 0 0),(.int .i64 0)] 305 false fun o28 => an False o28 h fun xe h=>
 aG False 4 (ptrTo xe) v27 h fun v30 h=>
 load1 False (ptrTo b3) h fun v31 h=>
 load1 False (ptrTo b5) h fun v32 h=>
 bJ False [(0,1),(1,1),(3,1)] [v31,v32,a3] [(.int .i64 0),(.int .i64 0),(.int .i64 0),(.int .i64 0),(.int .i64 0)] fun abx=>
 aF False [(.int .i64 0),(.int .i64 0),(.int .i64 0),(.int .i64 0),(.int .i64 0)] 83 false fun o34 => an False o34 h fun Ht h=>
 aG False 5 (ptrTo Ht) (Value.agg (Array.mk abx)) h fun iS h=>
 aI False 4 (ptrTo xe) h fun v37 h=>
 CallW prog 318 [v37] h fun j0 h=>
 au False prog .lss 3 true false j0 (.int .i64 0) h fun v39 h=>
 ag (ai v39 true) (fun Wf=>
 aI False 4 (ptrTo xe) h Wf) h fun v41 h=>
 ag (ai v39 true) (fun Wg=>
 aI False 5 (ptrTo Ht) h Wg) h fun qS h=>
 ag (ai v39 true) (fun Wh=>
 CallW prog 317 [v41,qS] h Wh) h fun v45 h=>
 aW False v39 v45 (.bool false) h fun v46 h=>
 dw (fun MN=>
 az v46 (
 fieldAddrB False 2 (ptrTo Ht) h fun v49 h=>
 aG False 1 v49 a3 h fun v50 h=>
 MN [v46,a3,v49,undef,undef,undef,undef,undef,undef,undef,undef,undef,undef] h) (
 vV xe Ht MN v46 h)) fun MM h=>
 q8 xe Ht b7 v46 h κ
def Cm (b1 b3 b5 b7:Nat) (a3:Value) (h:Heap) (κ:KQ):Prop :=
 fieldAddrB False 2 (ptrTo b1) h fun v20 h=>
 load1 False v20 h fun v21 h=>
 CallW prog 321 [v21,(Value.func (.func 322) (Array.mk []) (Array.mk [(ptrTo b3),(ptrTo b5)]))] h fun v22 h=>
 az v22 (
 bJ False [] [] [(.int .i64 0),(.int .i64 0),(.slice none 0 0),(.int .i64 0)] fun aby=>
 aG False 4 (ptrTo b7) (Value.agg (Array.mk aby)) h fun v24 h=>
 aI False 4 (ptrTo b7) h fun v25 _ => κ (Value.tuple (Array.mk [v25,(.bool false),(.int .i64 4)])) h) (
 Cl b1 b3 b5 a3 b7 h κ)
theorem Tm (a0 a1 a2 a3:Value) (h:Heap) (κ:KQ):aJ prog 293 [a0,a1,a2,a3] h κ = (
 aF False (Value.cells a0).toList 81 false fun o0 => an False o0 h fun b1 h=>
 aF False (Value.cells a1).toList 3 false fun o2 => an False o2 h fun b3 h=>
 aF False (Value.cells a2).toList 3 false fun o4 => an False o4 h fun b5 h=>
 aF False [(.int .i64 0),(.int .i64 0),(.slice none 0 0),(.int .i64 0)] 81 false fun o6 => an False o6 h fun b7 h=>
 load1 False (ptrTo b3) h fun v8 h=>
 au False prog .lss 3 true false v8 (.int .i64 0) h fun v9 h=>
 ag (ai v9 false) (fun qT=>
 qT a3 h) h fun v11 h=>
 ag (ai v9 false) (fun oK=>
 CallW prog 320 [v11] h oK) h fun bN h=>
 ag (ai v9 false) (fun sv=>
 iX False .not bN h sv) h fun bR h=>
 aW False v9 (.bool true) bR h fun v16 h=>
 az v16 (
 bJ False [] [] [(.int .i64 0),(.int .i64 0),(.slice none 0 0),(.int .i64 0)] fun Tn=>
 aG False 4 (ptrTo b7) (Value.agg (Array.mk Tn)) h fun cM h=>
 aI False 4 (ptrTo b7) h fun v19 _ => κ (Value.tuple (Array.mk [v19,(.bool false),(.int .i64 2)])) h) (
 Cm b1 b3 b5 b7 a3 h κ)) := by kernel_rfl
def vW (v32:Value) (MP:List Value→Heap→Prop) (DB:Value) (h:Heap):Prop :=
 aM False v32 h fun v77 h=>
 fieldAddrB False 3 v77 h fun v78 h=>
 load1 False v78 h fun v79 h=>
 aM False v32 h fun v80 h=>
 fieldAddrB False 2 v80 h fun Dz h=>
 aG False 1 Dz v79 h fun v82 h=>
 MP [DB,v32,v32,v77,v78,v79,v80,Dz,undef,undef,undef,undef,undef,undef,undef,undef,undef,undef,undef,undef] h
def vX (su:Nat) (v32:Value) (MP:List Value→Heap→Prop) (DB:Value) (h:Heap):Prop :=
 fieldAddrB False 0 (ptrTo su) h fun Hl h=>
 fieldAddrB False 3 Hl h fun Sn h=>
 load1 False Sn h fun v85 h=>
 au False prog .add 3 true false v85 (.int .i64 1) h fun W6 h=>
 fieldAddrB False 0 (ptrTo su) h fun v87 h=>
 fieldAddrB False 3 v87 h fun Oe h=>
 aG False 1 Oe W6 h fun DA h=>
 fieldAddrB False 0 (ptrTo su) h fun W7 h=>
 fieldAddrB False 3 W7 h fun v91 h=>
 load1 False v91 h fun v92 h=>
 aM False v32 h fun v93 h=>
 fieldAddrB False 4 v93 h fun W8 h=>
 aG False 1 W8 v92 h fun NV h=>
 MP [DB,undef,undef,undef,undef,undef,undef,undef,Hl,Sn,v85,W6,v87,Oe,v32,W7,v91,v92,v93,W8] h
def Cn (su:Nat) (bR a2:Value) (b3:Nat) (h:Heap) (κ:KQ):Prop :=
 fieldAddrB False 0 (ptrTo su) h fun nJ h=>
 fieldAddrB False 2 nJ h fun v30 h=>
 load1 False v30 h fun v31 h=>
 av False 5 v31 bR h fun v32 h=>
 aM False v32 h fun v33 h=>
 fieldAddrB False 2 v33 h fun ig h=>
 load1 False ig h fun v35 h=>
 CallW prog 208 [v35,a2] h fun iS h=>
 aM False v32 h fun v37 h=>
 fieldAddrB False 3 v37 h fun j0 h=>
 aG False 1 j0 iS h fun v39 h=>
 ay (some v32) h fun v40 h=>
 ay (aM none v40 h fun v _=>some v) h fun v41 h=>
 ay (fieldAddrB none 3 v41 h fun v _=>some v) h fun lH h=>
 ay (load1 none lH h fun v _=>some v) h fun qS h=>
 ay (some v32) h fun v44 h=>
 ay (aM none v44 h fun v _=>some v) h fun v45 h=>
 ay (fieldAddrB none 2 v45 h fun v _=>some v) h fun v46 h=>
 ay (load1 none v46 h fun v _=>some v) h fun rO h=>
 ay (au none prog .eql 37 false false qS rO h fun v _=>some v) h fun mL h=>
 ay (some mL) h fun v49 h=>
 ag (ai v49 false) (fun K50=>
 ay (aI none 4 (ptrTo su) h fun v _=>some v) h K50) h fun v51 h=>
 ag (ai v49 false) (fun K52=>
 ay (some v32) h K52) h fun v53 h=>
 ag (ai v49 false) (fun K54=>
 ay (aM none v53 h fun v _=>some v) h K54) h fun v55 h=>
 ag (ai v49 false) (fun K56=>
 ay (aI none 5 v55 h fun v _=>some v) h K56) h fun mA h=>
 ag (ai v49 false) (fun K58=>
 CallW prog 317 [v51,mA] h K58) h fun v59 h=>
 ag (ai v49 false) (fun K60=>
 ay (some v59) h K60) h fun mP h=>
 ag (ai mP true) (fun K62=>
 ay (fieldAddrB none 0 (ptrTo su) h fun v _=>some v) h K62) h fun o9 h=>
 ag (ai mP true) (fun K64=>
 ay (fieldAddrB none 2 o9 h fun v _=>some v) h K64) h fun qs h=>
 ag (ai mP true) (fun K66=>
 ay (load1 none qs h fun v _=>some v) h K66) h fun v67 h=>
 ag (ai mP true) (fun K68=>
 CallW prog 321 [v67,(Value.func (.func 238) (Array.mk []) (Array.mk []))] h K68) h fun xJ h=>
 ag (ai mP true) (fun K70=>
 ay (iX none .not xJ h fun v _=>some v) h K70) h fun xK h=>
 ag (ai v49 false) (fun K72=>
 ay (aW none mP xK (.bool false) h fun v _=>some v) h K72) h fun FJ h=>
 ay (aW none v49 (.bool true) FJ h fun v _=>some v) h fun DB h=>
 dw (fun MP=>
 az DB (
 vW v32 MP DB h) (
 vX su v32 MP DB h)) fun l76 h=>
 fieldAddrB False 0 (ptrTo su) h fun NW h=>
 aI False 4 NW h fun Qv h=>
 aG False 4 (ptrTo b3) Qv h fun v98 h=>
 aI False 4 (ptrTo b3) h fun Sp _ => κ (Value.tuple (Array.mk [Sp,DB,(.int .i64 0)])) h
def Co (su:Nat) (bR:Value) (b3:Nat) (a2:Value) (h:Heap) (κ:KQ):Prop :=
 fieldAddrB False 0 (ptrTo su) h fun v20 h=>
 fieldAddrB False 2 v20 h fun v21 h=>
 load1 False v21 h fun v22 h=>
 av False 5 v22 bR h fun v23 h=>
 aI False 5 v23 h fun v24 h=>
 CallW prog 192 [v24] h fun v25 h=>
 az v25 (
 bJ False [] [] [(.int .i64 0),(.int .i64 0),(.slice none 0 0),(.int .i64 0)] fun abz=>
 aG False 4 (ptrTo b3) (Value.agg (Array.mk abz)) h fun v27 h=>
 aI False 4 (ptrTo b3) h fun v28 _ => κ (Value.tuple (Array.mk [v28,(.bool false),(.int .i64 7)])) h) (
 Cn su bR a2 b3 h κ)
def Cp (b1:Nat) (a1:Value) (b3:Nat) (a2:Value) (h:Heap) (κ:KQ):Prop :=
 aI False 4 (ptrTo b1) h fun v9 h=>
 CallW prog 287 [v9] h fun v10 h=>
 aF False [(.int .i64 0),(.int .i64 0),(.slice none 0 0),(.int .i64 0)] 305 false fun o11 => an False o11 h fun su h=>
 aG False 4 (ptrTo su) v10 h fun bN h=>
 aI False 4 (ptrTo su) h fun bM h=>
 CallW prog 236 [bM,a1] h fun bR h=>
 au False prog .lss 3 true false bR (.int .i64 0) h fun v16 h=>
 az v16 (
 bJ False [] [] [(.int .i64 0),(.int .i64 0),(.slice none 0 0),(.int .i64 0)] fun Tn=>
 aG False 4 (ptrTo b3) (Value.agg (Array.mk Tn)) h fun cM h=>
 aI False 4 (ptrTo b3) h fun v19 _ => κ (Value.tuple (Array.mk [v19,(.bool false),(.int .i64 5)])) h) (
 Co su bR b3 a2 h κ)
theorem To (a0 a1 a2:Value) (h:Heap) (κ:KQ):aJ prog 294 [a0,a1,a2] h κ = (
 aF False (Value.cells a0).toList 81 false fun o0 => an False o0 h fun b1 h=>
 aF False [(.int .i64 0),(.int .i64 0),(.slice none 0 0),(.int .i64 0)] 81 false fun o2 => an False o2 h fun b3 h=>
 CallW prog 320 [a2] h fun v4 h=>
 iX False .not v4 h fun v5 h=>
 az v5 (
 bJ False [] [] [(.int .i64 0),(.int .i64 0),(.slice none 0 0),(.int .i64 0)] fun cs6=>
 aG False 4 (ptrTo b3) (Value.agg (Array.mk cs6)) h fun v7 h=>
 aI False 4 (ptrTo b3) h fun v8 _ => κ (Value.tuple (Array.mk [v8,(.bool false),(.int .i64 2)])) h) (
 Cp b1 a1 b3 a2 h κ)) := by kernel_rfl
def Kv (a0 a1:Value) (h:Heap) (κ:KQ):Prop :=
 aM False a0 h fun v2 h=>
 fieldAddrB False 0 v2 h fun v3 h=>
 load1 False v3 h fun v4 h=>
 av False 1 v4 a1 h fun v5 h=>
 load1 False v5 h fun v6 h=>
 au False prog .andNot 3 true false v6 (.int .i64 2) h fun v7 h=>
 av False 1 v4 a1 h fun v8 h=>
 aG False 1 v8 v7 h fun v9 h=>
 κ (.bool true) h
theorem Tp (a0 a1:Value) (h:Heap) (κ:KQ):aJ prog 296 [a0,a1] h κ = (
 CallW prog 324 [a0,a1] h fun v0 h=>
 iX False .not v0 h fun v1 h=>
 az v1 (
 κ (.bool false) h) (
 Kv a0 a1 h κ)) := by kernel_rfl
def Kw (a0:Value) (l5:List Value) (N4:List Value→Heap→Prop) (v6 v7 v8 v9 v11 bN bR v17 v19 v21 v23 v25 v27 nJ v31 v33 ig:Value) (h:Heap):Prop :=
 ay (some a0) h fun v35 h=>
 ay (some (slot l5 35)) h fun iS h=>
 ay (some a0) h fun v37 h=>
 ay (some (slot l5 35)) h fun j0 h=>
 ay (au none prog .sub 3 true false j0 (.int .i64 1) h fun v _=>some v) h fun v39 h=>
 ay (some a0) h fun v40 h=>
 ay (some (slot l5 35)) h fun v41 h=>
 ay (au none prog .sub 3 true false v41 (.int .i64 1) h fun v _=>some v) h fun lH h=>
 ay (av none 2 v40 lH h fun v _=>some v) h fun qS h=>
 ay (aI none 2 qS h fun v _=>some v) h fun v44 h=>
 ay (some a0) h fun v45 h=>
 ay (some (slot l5 35)) h fun v46 h=>
 ay (av none 2 v45 v46 h fun v _=>some v) h fun rO h=>
 ay (aI none 2 rO h fun v _=>some v) h fun mL h=>
 ay (av none 2 v35 iS h fun v _=>some v) h fun v49 h=>
 aG False 2 v49 v44 h fun v50 h=>
 cZ ((eU (some a0) v37) && ((eU (some (slot l5 35)) j0) && ((eU (au none prog .sub 3 true false j0 (.int .i64 1) h fun v _=>some v) v39) && true))) (ay (av none 2 v37 v39 h fun v _=>some v) h fun v51 h=>
 aG False 2 v51 mL h fun lS h=>
 au False prog .sub 3 true false (slot l5 35) (.int .i64 1) h fun v53 h=>
 N4 [v6,v7,v8,v9,v11,bN,bR,v17,v19,v21,v23,v25,v27,nJ,v31,v33,ig,v35,iS,v37,j0,v39,v40,v41,lH,qS,v44,v45,v46,rO,mL,v49,v51,(slot l5 35),v53,v53] h)
def Kx (l5:List Value) (a1 a3 a0:Value) (N4:List Value→Heap→Prop) (l2:List Value) (N1:List Value→Heap→Prop) (a2 v3:Value) (h:Heap):Prop :=
 ay (some (slot l5 35)) h fun v6 h=>
 ay (some a1) h fun v7 h=>
 ay (au none prog .gtr 3 false false v6 v7 h fun v _=>some v) h fun v8 h=>
 ay (some v8) h fun v9 h=>
 ag (ai v9 true) (fun qT=>
 ay (some a3) h qT) h fun v11 h=>
 ag (ai v9 true) (fun oK=>
 ay (some a0) h oK) h fun bN h=>
 ag (ai v9 true) (fun sv=>
 ay (some (slot l5 35)) h sv) h fun bR h=>
 ag (ai v9 true) (fun xI=>
 ay (av none 2 bN bR h fun v _=>some v) h xI) h fun v17 h=>
 ag (ai v9 true) (fun Bw=>
 ay (aI none 2 v17 h fun v _=>some v) h Bw) h fun v19 h=>
 ag (ai v9 true) (fun J9=>
 ay (some a0) h J9) h fun v21 h=>
 ag (ai v9 true) (fun K22=>
 ay (some (slot l5 35)) h K22) h fun v23 h=>
 ag (ai v9 true) (fun Sa=>
 ay (au none prog .sub 3 true false v23 (.int .i64 1) h fun v _=>some v) h Sa) h fun v25 h=>
 ag (ai v9 true) (fun K26=>
 ay (av none 2 v21 v25 h fun v _=>some v) h K26) h fun v27 h=>
 ag (ai v9 true) (fun K28=>
 ay (aI none 2 v27 h fun v _=>some v) h K28) h fun nJ h=>
 ag (ai v9 true) (fun We=>
 ic prog v11 [v19,nJ] h We) h fun v31 h=>
 ag (ai v9 true) (fun K32=>
 ay (au none prog .lss 3 true false v31 (.int .i64 0) h fun v _=>some v) h K32) h fun v33 h=>
 ay (aW none v9 v33 (.bool false) h fun v _=>some v) h fun ig h=>
 az ig (
 Kw a0 l5 N4 v6 v7 v8 v9 v11 bN bR v17 v19 v21 v23 v25 v27 nJ v31 v33 ig h) (
 au False prog .add 3 true false (slot l2 42) (.int .i64 1) h fun v54 h=>
 N1 [(slot l2 42),a2,v3,(slot l2 42),v6,v7,v8,v9,v11,bN,bR,v17,v19,v21,v23,v25,v27,nJ,v31,v33,ig,(slot l5 17),(slot l5 18),(slot l5 19),(slot l5 20),(slot l5 21),(slot l5 22),(slot l5 23),(slot l5 24),(slot l5 25),(slot l5 26),(slot l5 27),(slot l5 28),(slot l5 29),(slot l5 30),(slot l5 31),(slot l5 32),(slot l5 33),(slot l5 34),(slot l5 35),(slot l2 42),v54,v54] h)
theorem Tq (a0 a1 a2 a3:Value) (h:Heap) (κ:KQ):aJ prog 297 [a0,a1,a2,a3] h κ = (
 au False prog .add 3 true false a1 (.int .i64 1) h fun v0 h=>
 ej [undef,undef,undef,undef,undef,undef,undef,undef,undef,undef,undef,undef,undef,undef,undef,undef,undef,undef,undef,undef,undef,undef,undef,undef,undef,undef,undef,undef,undef,undef,undef,undef,undef,undef,undef,undef,undef,undef,undef,undef,undef,undef,v0] h fun l2 h N1=>
 au False prog .lss 3 false false (slot l2 42) a2 h fun v3 h=>
 az v3 (
 ej [(slot l2 4),(slot l2 5),(slot l2 6),(slot l2 7),(slot l2 8),(slot l2 9),(slot l2 10),(slot l2 11),(slot l2 12),(slot l2 13),(slot l2 14),(slot l2 15),(slot l2 16),(slot l2 17),(slot l2 18),(slot l2 19),(slot l2 20),(slot l2 21),(slot l2 22),(slot l2 23),(slot l2 24),(slot l2 25),(slot l2 26),(slot l2 27),(slot l2 28),(slot l2 29),(slot l2 30),(slot l2 31),(slot l2 32),(slot l2 33),(slot l2 34),(slot l2 35),(slot l2 36),(slot l2 37),(slot l2 38),(slot l2 42)] h fun l5 h N4=>
 Kx l5 a1 a3 a0 N4 l2 N1 a2 v3 h) (
 κ (Value.tuple (Array.mk [])) h)) := by kernel_rfl
theorem Tr (a0 a1:Value) (h:Heap) (κ:KQ):aJ prog 316 [a0,a1] h κ = (
 aF False (Value.cells a0).toList 83 false fun o0 => an False o0 h fun b1 h=>
 fieldAddrB False 0 (ptrTo b1) h fun v2 h=>
 load1 False v2 h fun v3 h=>
 load1 False a1 h fun v4 h=>
 au False prog .eql 3 false false v3 v4 h fun v5 h=>
 κ v5 h) := by kernel_rfl
theorem Tt (a0 a1:Value) (h:Heap) (κ:KQ):aJ prog 317 [a0,a1] h κ = (
 aF False (Value.cells a0).toList 305 false fun o0 => an False o0 h fun b1 h=>
 aF False (Value.cells a1).toList 83 false fun o2 => an False o2 h fun b3 h=>
 fieldAddrB False 0 (ptrTo b1) h fun v4 h=>
 fieldAddrB False 2 v4 h fun v5 h=>
 load1 False v5 h fun v6 h=>
 CallW prog 321 [v6,(Value.func (.func 334) (Array.mk []) (Array.mk [(ptrTo b3)]))] h fun v7 h=>
 iX False .not v7 h fun v8 h=>
 κ v8 h) := by kernel_rfl
def Cq (v4:Value) (l7:List Value) (b1:Nat) (N9:List Value→Heap→Prop) (h:Heap):Prop :=
 av False 5 v4 (slot l7 27) h fun v11 h=>
 aI False 5 v11 h fun v12 h=>
 aF False [(.int .i64 0),(.int .i64 0),(.int .i64 0),(.int .i64 0),(.int .i64 0)] 83 false fun o13 => an False o13 h fun Xl h=>
 aG False 5 (ptrTo Xl) v12 h fun bR h=>
 ay (aI none 5 (ptrTo Xl) h fun v _=>some v) h fun v16 h=>
 CallW prog 238 [v16] h fun v17 h=>
 ay (some v17) h fun cM h=>
 ag (ai cM true) (fun Hp=>
 ay (some (slot l7 25)) h Hp) h fun v20 h=>
 ag (ai cM true) (fun Oa=>
 ay (au none prog .lss 3 true false v20 (.int .i64 0) h fun v _=>some v) h Oa) h fun v22 h=>
 ag (ai cM true) (fun J4=>
 ay (some v22) h J4) h fun v24 h=>
 ag (ai v24 false) (fun N_=>
 ay (fieldAddrB none 4 (ptrTo Xl) h fun v _=>some v) h N_) h fun v26 h=>
 ag (ai v24 false) (fun J5=>
 ay (load1 none v26 h fun v _=>some v) h J5) h fun v28 h=>
 ag (ai v24 false) (fun J6=>
 ay (fieldAddrB none 0 (ptrTo b1) h fun v _=>some v) h J6) h fun v30 h=>
 ag (ai v24 false) (fun Hq=>
 ay (fieldAddrB none 2 v30 h fun v _=>some v) h Hq) h fun v32 h=>
 ag (ai v24 false) (fun J7=>
 ay (load1 none v32 h fun v _=>some v) h J7) h fun ig h=>
 ag (ai v24 false) (fun NY=>
 ay (some (slot l7 25)) h NY) h fun iS h=>
 ag (ai v24 false) (fun NZ=>
 ay (av none 5 ig iS h fun v _=>some v) h NZ) h fun j0 h=>
 ag (ai v24 false) (fun Wq=>
 ay (fieldAddrB none 4 j0 h fun v _=>some v) h Wq) h fun v40 h=>
 ag (ai v24 false) (fun Sb=>
 ay (load1 none v40 h fun v _=>some v) h Sb) h fun lH h=>
 ag (ai v24 false) (fun Sc=>
 ay (au none prog .lss 3 false false v28 lH h fun v _=>some v) h Sc) h fun v44 h=>
 ag (ai cM true) (fun Sd=>
 ay (aW none v24 (.bool true) v44 h fun v _=>some v) h Sd) h fun v46 h=>
 ay (aW none cM v46 (.bool false) h fun v _=>some v) h fun rO h=>
 az rO (
 N9 [(slot l7 27),v11,v12,(ptrTo Xl),(slot l7 27),v16,v17,cM,v20,v22,v24,v26,v28,v30,v32,ig,iS,j0,v40,lH,v44,v46,rO,(slot l7 27),(slot l7 27)] h) (
 N9 [(slot l7 27),v11,v12,(ptrTo Xl),(slot l7 27),v16,v17,cM,v20,v22,v24,v26,v28,v30,v32,ig,iS,j0,v40,lH,v44,v46,rO,(slot l7 24),(slot l7 25)] h)
def vY (l7:List Value) (b1:Nat) (Zv:List Value→Heap→Prop) (h:Heap):Prop :=
 au False prog .lss 3 true false (slot l7 25) (.int .i64 0) h fun v51 h=>
 az v51 (
 fieldAddrB False 0 (ptrTo b1) h fun lS h=>
 fieldAddrB False 2 lS h fun v53 h=>
 load1 False v53 h fun v54 h=>
 CallW prog 268 [v54,(Value.func (.func 335) (Array.mk []) (Array.mk []))] h fun v55 h=>
 Zv [(slot l7 25),v51,lS,v53,v54,v55,v55] h) (
 Zv [(slot l7 25),v51,undef,undef,undef,undef,(slot l7 25)] h)
def vZ (l7:List Value) (v5 v4:Value) (b1:Nat) (N6:List Value→Heap→Prop) (h:Heap) (κ:KQ):Prop :=
 au False prog .lss 3 false false (slot l7 27) v5 h fun v8 h=>
 az v8 (
 dw (fun N9=>
 Cq v4 l7 b1 N9 h) fun tN h=>
 au False prog .add 3 true false (slot l7 27) (.int .i64 1) h fun mL h=>
 N6 [v8,(slot tN 0),(slot tN 1),(slot tN 2),(slot tN 3),(slot tN 4),(slot tN 5),(slot tN 6),(slot tN 7),(slot tN 8),(slot tN 9),(slot tN 10),(slot tN 11),(slot tN 12),(slot tN 13),(slot tN 14),(slot tN 15),(slot tN 16),(slot tN 17),(slot tN 18),(slot tN 19),(slot tN 20),(slot tN 21),(slot tN 22),(slot tN 23),(slot tN 24),mL,mL] h) (
 dw (fun Zv=>
 vY l7 b1 Zv h) fun l50 h=>
 κ (slot l50 6) h)
theorem Tu (a0:Value) (h:Heap) (κ:KQ):aJ prog 318 [a0] h κ = (
 aF False (Value.cells a0).toList 305 false fun o0 => an False o0 h fun b1 h=>
 fieldAddrB False 0 (ptrTo b1) h fun v2 h=>
 fieldAddrB False 2 v2 h fun v3 h=>
 load1 False v3 h fun v4 h=>
 bz False v4 h fun v5 h=>
 ej [undef,undef,undef,undef,undef,undef,undef,undef,undef,undef,undef,undef,undef,undef,undef,undef,undef,undef,undef,undef,undef,undef,undef,undef,undef,(.int .i64 (-1)),undef,(.int .i64 0)] h fun l7 h N6=>
 vZ l7 v5 v4 b1 N6 h κ) := by kernel_rfl
theorem Tv (a0 a1:Value) (h:Heap) (κ:KQ):aJ prog 319 [a0,a1] h κ = (
 aF False (Value.cells a0).toList 81 false fun o0 => an False o0 h fun b1 h=>
 aF False [(.int .i64 0),(.int .i64 0),(.slice none 0 0),(.int .i64 0)] 81 false fun o2 => an False o2 h fun b3 h=>
 aI False 4 (ptrTo b1) h fun v4 h=>
 CallW prog 287 [v4] h fun v5 h=>
 aF False [(.int .i64 0),(.int .i64 0),(.slice none 0 0),(.int .i64 0)] 305 false fun o6 => an False o6 h fun b7 h=>
 aG False 4 (ptrTo b7) v5 h fun v8 h=>
 aI False 4 (ptrTo b7) h fun v9 h=>
 CallW prog 236 [v9,a1] h fun v10 h=>
 au False prog .lss 3 true false v10 (.int .i64 0) h fun v11 h=>
 az v11 (
 bJ False [] [] [(.int .i64 0),(.int .i64 0),(.slice none 0 0),(.int .i64 0)] fun S3=>
 aG False 4 (ptrTo b3) (Value.agg (Array.mk S3)) h fun bN h=>
 aI False 4 (ptrTo b3) h fun bM _ => κ (Value.tuple (Array.mk [bM,(.int .i64 5)])) h) (
 aI False 4 (ptrTo b7) h fun bR h=>
 CallW prog 288 [bR,a1] h fun v16 h=>
 aG False 4 (ptrTo b3) v16 h fun v17 h=>
 aI False 4 (ptrTo b3) h fun cM _ => κ (Value.tuple (Array.mk [cM,(.int .i64 0)])) h)) := by kernel_rfl
theorem Tw (a0:Value) (h:Heap) (κ:KQ):aJ prog 320 [a0] h κ = (
 au False prog .neq 37 true false a0 (.int .i64 0) h fun v0 h=>
 ag (ai v0 true) (fun K1=>
 K1 a0 h) h fun v2 h=>
 ag (ai v0 true) (fun K3=>
 CallW prog 73 [v2] h K3) h fun v4 h=>
 aW False v0 v4 (.bool false) h fun v5 h=>
 κ v5 h) := by kernel_rfl
theorem Tx (a0 a1 a2:Value) (h:Heap) (κ:KQ):aJ prog 322 [a0,a1,a2] h κ = (
 aF False (Value.cells a0).toList 83 false fun o0 => an False o0 h fun b1 h=>
 fieldAddrB False 0 (ptrTo b1) h fun v2 h=>
 load1 False v2 h fun v3 h=>
 load1 False a1 h fun v4 h=>
 au False prog .eql 3 false false v3 v4 h fun v5 h=>
 ag (ai v5 false) (fun K6=>
 fieldAddrB False 1 (ptrTo b1) h K6) h fun v7 h=>
 ag (ai v5 false) (fun K8=>
 load1 False v7 h K8) h fun v9 h=>
 ag (ai v5 false) (fun qT=>
 load1 False a2 h qT) h fun v11 h=>
 ag (ai v5 false) (fun oK=>
 au False prog .eql 3 false false v9 v11 h oK) h fun bN h=>
 aW False v5 (.bool true) bN h fun bM h=>
 κ bM h) := by kernel_rfl
theorem Ty (a0 a1:Value) (h:Heap) (κ:KQ):aJ prog 324 [a0,a1] h κ = (
 CallW prog 99 [a0,a1,(.int .i64 2)] h fun v0 h=>
 κ v0 h) := by kernel_rfl
theorem Tz (a0 a1:Value) (h:Heap) (κ:KQ):aJ prog 334 [a0,a1] h κ = (
 aF False (Value.cells a0).toList 83 false fun o0 => an False o0 h fun b1 h=>
 fieldAddrB False 0 (ptrTo b1) h fun v2 h=>
 load1 False v2 h fun v3 h=>
 fieldAddrB False 0 a1 h fun v4 h=>
 load1 False v4 h fun v5 h=>
 au False prog .neq 3 false false v3 v5 h fun v6 h=>
 ag (ai v6 true) (fun K7=>
 aI False 5 (ptrTo b1) h K7) h fun v8 h=>
 ag (ai v6 true) (fun K9=>
 CallW prog 237 [v8] h K9) h fun v10 h=>
 aW False v6 v10 (.bool false) h fun v11 h=>
 ag (ai v11 true) (fun oK=>
 fieldAddrB False 2 (ptrTo b1) h oK) h fun bN h=>
 ag (ai v11 true) (fun sv=>
 load1 False bN h sv) h fun bR h=>
 ag (ai v11 true) (fun xI=>
 fieldAddrB False 3 a1 h xI) h fun v17 h=>
 ag (ai v11 true) (fun Bw=>
 load1 False v17 h Bw) h fun v19 h=>
 ag (ai v11 true) (fun J9=>
 CallW prog 210 [bR,v19] h J9) h fun v21 h=>
 ag (ai v11 true) (fun K22=>
 iX False .not v21 h K22) h fun v23 h=>
 aW False v11 v23 (.bool false) h fun v24 h=>
 κ v24 h) := by kernel_rfl
theorem TC (a0:Value) (h:Heap) (κ:KQ):aJ prog 335 [a0] h κ = (
 aF False (Value.cells a0).toList 83 false fun o0 => an False o0 h fun b1 h=>
 aI False 5 (ptrTo b1) h fun v2 h=>
 CallW prog 237 [v2] h fun v3 h=>
 iX False .not v3 h fun v4 h=>
 κ v4 h) := by kernel_rfl
theorem Ky (a0:Value) (h:Heap) (κ:KQ):aJ prog 360 [a0] h κ = (
 bz False a0 h fun v0 h=>
 κ v0 h) := by kernel_rfl
theorem TE (a0 a1 a2:Value) (h:Heap) (κ:KQ):aJ prog 362 [a0,a1,a2] h κ = (
 ay (some a0) h fun v0 h=>
 ay (some a1) h fun v1 h=>
 ay (some a0) h fun v2 h=>
 ay (some a2) h fun v3 h=>
 ay (some a0) h fun v4 h=>
 ay (some a2) h fun v5 h=>
 ay (av none 3 v4 v5 h fun v _=>some v) h fun v6 h=>
 ay (aI none 3 v6 h fun v _=>some v) h fun v7 h=>
 ay (some a0) h fun v8 h=>
 ay (some a1) h fun v9 h=>
 ay (av none 3 v8 v9 h fun v _=>some v) h fun v10 h=>
 ay (aI none 3 v10 h fun v _=>some v) h fun v11 h=>
 ay (av none 3 v0 v1 h fun v _=>some v) h fun v12 h=>
 aG False 3 v12 v7 h fun bN h=>
 cZ ((eU (some a0) v2) && ((eU (some a2) v3) && true)) (ay (av none 3 v2 v3 h fun v _=>some v) h fun bM h=>
 aG False 3 bM v11 h fun bR h=>
 κ (Value.tuple (Array.mk [])) h)) := by kernel_rfl
theorem TF (a0:Value) (h:Heap) (κ:KQ):aJ prog 364 [a0] h κ = (
 aM False a0 h fun v0 h=>
 load1 False v0 h fun v1 h=>
 bz False v1 h fun v2 h=>
 au False prog .sub 3 true false v2 (.int .i64 1) h fun v3 h=>
 aM False a0 h fun v4 h=>
 load1 False v4 h fun v5 h=>
 av False 3 v5 v3 h fun v6 h=>
 aI False 3 v6 h fun v7 h=>
 aF False [(.int .i64 0),(.int .i64 0),(.int .i64 0)] 214 false fun o8 => an False o8 h fun b9 h=>
 aG False 3 (ptrTo b9) v7 h fun v10 h=>
 aM False a0 h fun v11 h=>
 load1 False v11 h fun v12 h=>
 sliceB False 214 3 v12 none (some v3) none h fun bN h=>
 aM False a0 h fun bM h=>
 aG False 1 bM bN h fun bR h=>
 aI False 3 (ptrTo b9) h fun v16 h=>
 κ (Value.iface 214 v16) h) := by kernel_rfl
def Cr (a0:Value) (b4:Nat) (h:Heap) (κ:KQ):Prop :=
 ay (some a0) h fun v6 h=>
 ay (some a0) h fun v7 h=>
 ay (aM none v7 h fun v _=>some v) h fun v8 h=>
 ay (load1 none v8 h fun v _=>some v) h fun v9 h=>
 ay (aI none 3 (ptrTo b4) h fun v _=>some v) h fun v10 h=>
 Dy (bJ none [(0,3)] [v10] (aT [(.int .i64 0),(.int .i64 0),(.int .i64 0)] 1) fun cs => aF none cs 214 false fun o => some (o,sliceTo 1 1)) h fun v11 h=>
 bG False 214 3 [(.int .i64 0),(.int .i64 0),(.int .i64 0)] false v9 v11 h fun v12 h=>
 cZ ((eU (some a0) v6) && true) (ay (aM none v6 h fun v _=>some v) h fun bN h=>
 aG False 1 bN v12 h fun bM h=>
 κ (Value.tuple (Array.mk [])) h)
theorem TG (a0 a1:Value) (h:Heap) (κ:KQ):aJ prog 365 [a0,a1] h κ = (
 cq False 214 (Value.agg (Array.mk [(.int .i64 0),(.int .i64 0),(.int .i64 0)])) true a1 h fun v0 h=>
 aq False 0 v0 h fun v1 h=>
 aq False 1 v0 h fun v2 h=>
 aF False [(.int .i64 0),(.int .i64 0),(.int .i64 0)] 214 false fun o3 => an False o3 h fun b4 h=>
 aG False 3 (ptrTo b4) v1 h fun v5 h=>
 az v2 (
 Cr a0 b4 h κ) (
 κ (Value.tuple (Array.mk [])) h)) := by kernel_rfl
theorem TH (a0 a1 a2:Value) (h:Heap) (κ:KQ):aJ prog 366 [a0,a1,a2] h κ = (
 ay (some a0) h fun v0 h=>
 ay (some a1) h fun v1 h=>
 ay (av none 1 v0 v1 h fun v _=>some v) h fun v2 h=>
 ay (load1 none v2 h fun v _=>some v) h fun v3 h=>
 ay (some a0) h fun v4 h=>
 ay (some a2) h fun v5 h=>
 ay (av none 1 v4 v5 h fun v _=>some v) h fun v6 h=>
 ay (load1 none v6 h fun v _=>some v) h fun v7 h=>
 ay (au none prog .lss 3 false false v3 v7 h fun v _=>some v) h fun v8 h=>
 κ v8 h) := by kernel_rfl
theorem TI (a0 a1 a2:Value) (h:Heap) (κ:KQ):aJ prog 368 [a0,a1,a2] h κ = (
 ay (some a0) h fun v0 h=>
 ay (some a1) h fun v1 h=>
 ay (some a0) h fun v2 h=>
 ay (some a2) h fun v3 h=>
 ay (some a0) h fun v4 h=>
 ay (some a2) h fun v5 h=>
 ay (av none 1 v4 v5 h fun v _=>some v) h fun v6 h=>
 ay (load1 none v6 h fun v _=>some v) h fun v7 h=>
 ay (some a0) h fun v8 h=>
 ay (some a1) h fun v9 h=>
 ay (av none 1 v8 v9 h fun v _=>some v) h fun v10 h=>
 ay (load1 none v10 h fun v _=>some v) h fun v11 h=>
 ay (av none 1 v0 v1 h fun v _=>some v) h fun v12 h=>
 aG False 1 v12 v7 h fun bN h=>
 cZ ((eU (some a0) v2) && ((eU (some a2) v3) && true)) (ay (av none 1 v2 v3 h fun v _=>some v) h fun bM h=>
 aG False 1 bM v11 h fun bR h=>
 κ (Value.tuple (Array.mk [])) h)) := by kernel_rfl
theorem TJ (a0:Value) (h:Heap) (κ:KQ):aJ prog 369 [a0] h κ = (
 aM False a0 h fun v0 h=>
 fieldAddrB False 0 v0 h fun v1 h=>
 load1 False v1 h fun v2 h=>
 CallW prog 137 [v2] h fun v3 h=>
 au False prog .sub 3 true false v3 (.int .i64 1) h fun v4 h=>
 aM False a0 h fun v5 h=>
 fieldAddrB False 0 v5 h fun v6 h=>
 load1 False v6 h fun v7 h=>
 av False 1 v7 v4 h fun v8 h=>
 load1 False v8 h fun v9 h=>
 aM False a0 h fun v10 h=>
 fieldAddrB False 0 v10 h fun v11 h=>
 load1 False v11 h fun v12 h=>
 sliceB False 3 1 v12 none (some v4) none h fun bN h=>
 aM False a0 h fun bM h=>
 fieldAddrB False 0 bM h fun bR h=>
 aG False 1 bR bN h fun v16 h=>
 κ (Value.iface 3 v9) h) := by kernel_rfl
def Cs (a0 v1:Value) (h:Heap) (κ:KQ):Prop :=
 aM False a0 h fun v3 h=>
 fieldAddrB False 0 v3 h fun v4 h=>
 load1 False v4 h fun v5 h=>
 bJ False [(0,1)] [v1] (aT [(.int .i64 0)] 1) fun cs8 => aF False cs8 3 false fun o6 => an False o6 h fun b7 h=>
 bG False 3 1 [(.int .i64 0)] false v5 (sliceTo 1 1 b7) h fun v9 h=>
 aM False a0 h fun v10 h=>
 fieldAddrB False 0 v10 h fun v11 h=>
 aG False 1 v11 v9 h fun v12 h=>
 κ (Value.tuple (Array.mk [])) h
theorem TK (a0 a1:Value) (h:Heap) (κ:KQ):aJ prog 370 [a0,a1] h κ = (
 cq False 3 (.int .i64 0) true a1 h fun v0 h=>
 aq False 0 v0 h fun v1 h=>
 aq False 1 v0 h fun v2 h=>
 az v2 (
 Cs a0 v1 h κ) (
 κ (Value.tuple (Array.mk [])) h)) := by kernel_rfl
end
end Go.Proofs
