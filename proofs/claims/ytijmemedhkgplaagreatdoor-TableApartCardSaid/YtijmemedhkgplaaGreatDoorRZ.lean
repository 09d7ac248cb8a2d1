/-
  PROVED HERE: a part of the proof, by a calculus of weakest conditions over an abstract heap (RZ).
-/
import Derived.Test.YtijmemedhkgplaaGreatDoorV4
import Derived.Test.YtijmemedhkgplaaGreatDoorProg
import Derived.KernelRfl
set_option linter.unusedVariables false
set_option linter.unusedSimpArgs false
set_option maxRecDepth 100000
namespace Go.Proofs
open Go.Vai

noncomputable def rs_3_0 (b40 : Nat) (v23 : Value) (N35 : List Value → Heap → Prop) (a0 : Value) (l32 : List Value) (v37 : Value) (v38 : Value) (v19 : Value) (v42 : Value) (v43 : Value) (v44 : Value) (v45 : Value) (v46 : Value) (v47 : Value) (v48 : Value) (v49 : Value) (v50 : Value) (v51 : Value) (v54 : Value) (v52 : Value) (v53 : Value) (v55 : Value) (v56 : Value) (h : Heap) : Prop :=
 fieldAddrB False 1 (ptrTo b40) h fun v57 h =>
 loadA False 2 v57 h fun v58 h =>
 fieldAddrB False 4 (ptrTo b40) h fun v59 h =>
 load1 False v59 h fun v60 h =>
 fieldAddrB False 5 (ptrTo b40) h fun v61 h =>
 load1 False v61 h fun v62 h =>
 CallW Tryz.prog 11 [v23, v58, v60, v62] h fun v63 h =>
 N35 [a0, (slot l32 35), v37, v38, (ptrTo b40), v19, v42, v43, v44, v45, v46, v47, v48, v49, v50, v51, v54, v52, v53, v55, v56, v23, v57, v58, v59, v60, v61, v62, v63] h

noncomputable def rs_3_1 (a0 : Value) (l32 : List Value) (v19 : Value) (b1 : Nat) (v23 : Value) (N35 : List Value → Heap → Prop) (h : Heap) : Prop :=
 indexAddrS False 6 a0 (slot l32 35) h fun v37 h =>
 loadA False 6 v37 h fun v38 h =>
 cellsK False [(Value.int .i64 (0)), (Value.int .i64 (0)), (Value.int .i64 (0)), (Value.int .i64 (0)), (Value.int .i64 (0)), (Value.int .i64 (0))] 35 false fun o39 => newBlock False o39 h fun b40 h =>
 storeV False 6 (ptrTo b40) v38 h fun v41 h =>
 fieldAddrB False 1 (ptrTo b40) h fun v42 h =>
 loadA False 2 v42 h fun v43 h =>
 fieldAddrB False 4 (ptrTo b40) h fun v44 h =>
 load1 False v44 h fun v45 h =>
 fieldAddrB False 5 (ptrTo b40) h fun v46 h =>
 load1 False v46 h fun v47 h =>
 CallW Tryz.prog 11 [v19, v43, v45, v47] h fun v48 h =>
 RdK (some v19) h fun v49 h =>
 RdK (fieldAddrB none 1 (ptrTo b40) h fun v _ => some v) h fun v50 h =>
 RdK (loadA none 2 v50 h fun v _ => some v) h fun v51 h =>
 RdK (some v19) h fun v52 h =>
 RdK (loadA none 2 (ptrTo b1) h fun v _ => some v) h fun v53 h =>
 CallW Tryz.prog 12 [v49, v51] h fun v54 h =>
 SameK ((reV (some v19) v52) && ((reV (loadA none 2 (ptrTo b1) h fun v _ => some v) v53) && true)) (CallW Tryz.prog 12 [v52, v53] h fun v55 h =>
 RdK (binB none Tryz.prog .eql 3 false false v54 v55 h fun v _ => some v) h fun v56 h =>
 CondW v56 (
 rs_3_0 b40 v23 N35 a0 l32 v37 v38 v19 v42 v43 v44 v45 v46 v47 v48 v49 v50 v51 v54 v52 v53 v55 v56 h) (
 N35 [a0, (slot l32 35), v37, v38, (ptrTo b40), v19, v42, v43, v44, v45, v46, v47, v48, v49, v50, v51, v54, v52, v53, v55, v56, (slot l32 25), (slot l32 26), (slot l32 27), (slot l32 28), (slot l32 29), (slot l32 30), (slot l32 31), (slot l32 32)] h))

noncomputable def rs_3_2 (v19 : Value) (b1 : Nat) (v23 : Value) (h : Heap) (κ : Value → Heap → Prop) : Prop :=
 RdK (some v19) h fun v65 h =>
 RdK (loadA none 2 (ptrTo b1) h fun v _ => some v) h fun v66 h =>
 RdK (some v23) h fun v67 h =>
 RdK (loadA none 2 (ptrTo b1) h fun v _ => some v) h fun v68 h =>
 CallW Tryz.prog 13 [v65, v66] h fun v69 h =>
 SameK ((reV (some v23) v67) && ((reV (loadA none 2 (ptrTo b1) h fun v _ => some v) v68) && true)) (CallW Tryz.prog 13 [v67, v68] h fun v70 h =>
 RdK (binB none Tryz.prog .eql 9 false false v69 v70 h fun v _ => some v) h fun v71 h =>
 κ v71 h)

noncomputable def rs_3_3 (a0 : Value) (l32 : List Value) (v19 : Value) (b1 : Nat) (v23 : Value) (N31 : List Value → Heap → Prop) (h : Heap) (κ : Value → Heap → Prop) : Prop :=
 lenSli False a0 h fun v33 h =>
 binB False Tryz.prog .lss 3 false false (slot l32 35) v33 h fun v34 h =>
 CondW v34 (
 JoinR (fun N35 =>
 rs_3_1 a0 l32 v19 b1 v23 N35 h) fun l36 h =>
 binB False Tryz.prog .add 3 true false (slot l32 35) (Value.int .i64 (1)) h fun v64 h =>
 N31 [(slot l32 35), a0, v33, v34, (slot l36 0), (slot l36 1), (slot l36 2), (slot l36 3), (slot l36 4), (slot l36 5), (slot l36 6), (slot l36 7), (slot l36 8), (slot l36 9), (slot l36 10), (slot l36 11), (slot l36 12), (slot l36 13), (slot l36 14), (slot l36 15), (slot l36 16), (slot l36 17), (slot l36 18), (slot l36 19), (slot l36 20), (slot l36 21), (slot l36 22), (slot l36 23), (slot l36 24), (slot l36 25), (slot l36 26), (slot l36 27), (slot l36 28), (slot l32 35), v64, v64] h) (
 rs_3_2 v19 b1 v23 h κ)

noncomputable def rs_3_4 (a0 : Value) (b1 : Nat) (h : Heap) (κ : Value → Heap → Prop) : Prop :=
 fillB False [(0, 1), (1, 1), (2, 1)] [(Value.int .i64 (16)), (Value.int .i64 (64)), (Value.int .i64 (128))] [(Value.int .i64 (0)), (Value.int .i64 (0)), (Value.int .i64 (0)), (Value.int .i64 (0))] fun cs13 =>
 cellsK False [(Value.int .i64 (0)), (Value.int .i64 (0)), (Value.int .i64 (0)), (Value.int .i64 (0))] 29 false fun o14 => newBlock False o14 h fun b15 h =>
 storeV False 4 (ptrTo b15) (Value.agg (Array.mk cs13)) h fun v16 h =>
 loadA False 4 (ptrTo b15) h fun v17 h =>
 CallW Tryz.prog 10 [v17] h fun v18 h =>
 extractB False 0 v18 h fun v19 h =>
 extractB False 1 v18 h fun v20 h =>
 loadA False 4 (ptrTo b15) h fun v21 h =>
 CallW Tryz.prog 10 [v21] h fun v22 h =>
 extractB False 0 v22 h fun v23 h =>
 extractB False 1 v22 h fun v24 h =>
 binB False Tryz.prog .neq 26 true false v20 (Value.int .i64 (0)) h fun v25 h =>
 GuardW (wantV v25 false) (fun K26 =>
 K26 v24 h) h fun v27 h =>
 GuardW (wantV v25 false) (fun K28 =>
 binB False Tryz.prog .neq 26 true false v27 (Value.int .i64 (0)) h K28) h fun v29 h =>
 pickB False v25 (Value.bool true) v29 h fun v30 h =>
 CondW v30 (
 κ (Value.bool false) h) (
 LoopR [undef, undef, undef, undef, undef, undef, undef, undef, undef, undef, undef, undef, undef, undef, undef, undef, undef, undef, undef, undef, undef, undef, undef, undef, undef, undef, undef, undef, undef, undef, undef, undef, undef, undef, undef, (Value.int .i64 (0))] h fun l32 h N31 =>
 rs_3_3 a0 l32 v19 b1 v23 N31 h κ)

noncomputable def rs_3_5 (a0 : Value) (b1 : Nat) (h : Heap) (κ : Value → Heap → Prop) : Prop :=
 lenSli False a0 h fun v4 h =>
 binB False Tryz.prog .gtr 3 true false v4 (Value.int .i64 (40)) h fun v5 h =>
 GuardW (wantV v5 false) (fun K6 =>
 loadA False 2 (ptrTo b1) h K6) h fun v7 h =>
 GuardW (wantV v5 false) (fun K8 =>
 CallW Tryz.prog 9 [v7] h K8) h fun v9 h =>
 GuardW (wantV v5 false) (fun K10 =>
 binB False Tryz.prog .neq 26 true false v9 (Value.int .i64 (0)) h K10) h fun v11 h =>
 pickB False v5 (Value.bool true) v11 h fun v12 h =>
 CondW v12 (
 κ (Value.bool true) h) (
 rs_3_4 a0 b1 h κ)

/-- latchstring/latchstringlaw12.TableApart -/
theorem rs_3 (a0 a1 : Value) (h : Heap) (κ : Value → Heap → Prop) : BodyW Tryz.prog 3 [a0, a1] h κ = (
 cellsK False (Value.cells a1).toList 24 false fun o0 => newBlock False o0 h fun b1 h =>
 CallW Tryz.prog 8 [] h fun v2 h =>
 unB False .not v2 h fun v3 h =>
 CondW v3 (
 κ (Value.bool false) h) (
 rs_3_5 a0 b1 h κ)) := by kernel_rfl

noncomputable def rs_4_0 (v38 : Value) (l59 : List Value) (v22 : Value) (N58 : List Value → Heap → Prop) (v60 : Value) (v61 : Value) (h : Heap) (κ : Value → Heap → Prop) : Prop :=
 RdK (some v38) h fun v62 h =>
 RdK (some (slot l59 32)) h fun v63 h =>
 RdK (indexAddrS none 4 v62 v63 h fun v _ => some v) h fun v64 h =>
 RdK (fieldAddrB none 0 v64 h fun v _ => some v) h fun v65 h =>
 RdK (loadA none 2 v65 h fun v _ => some v) h fun v66 h =>
 RdK (some v22) h fun v67 h =>
 RdK (some (slot l59 32)) h fun v68 h =>
 RdK (indexAddrS none 4 v67 v68 h fun v _ => some v) h fun v69 h =>
 RdK (fieldAddrB none 0 v69 h fun v _ => some v) h fun v70 h =>
 RdK (loadA none 2 v70 h fun v _ => some v) h fun v71 h =>
 RdK (binB none Tryz.prog .neq 24 false false v66 v71 h fun v _ => some v) h fun v72 h =>
 RdK (some v72) h fun v73 h =>
 GuardW (wantV v73 false) (fun K74 =>
 RdK (some v38) h K74) h fun v75 h =>
 GuardW (wantV v73 false) (fun K76 =>
 RdK (some (slot l59 32)) h K76) h fun v77 h =>
 GuardW (wantV v73 false) (fun K78 =>
 RdK (indexAddrS none 4 v75 v77 h fun v _ => some v) h K78) h fun v79 h =>
 GuardW (wantV v73 false) (fun K80 =>
 RdK (fieldAddrB none 2 v79 h fun v _ => some v) h K80) h fun v81 h =>
 GuardW (wantV v73 false) (fun K82 =>
 RdK (load1 none v81 h fun v _ => some v) h K82) h fun v83 h =>
 GuardW (wantV v73 false) (fun K84 =>
 RdK (some v22) h K84) h fun v85 h =>
 GuardW (wantV v73 false) (fun K86 =>
 RdK (some (slot l59 32)) h K86) h fun v87 h =>
 GuardW (wantV v73 false) (fun K88 =>
 RdK (indexAddrS none 4 v85 v87 h fun v _ => some v) h K88) h fun v89 h =>
 GuardW (wantV v73 false) (fun K90 =>
 RdK (fieldAddrB none 2 v89 h fun v _ => some v) h K90) h fun v91 h =>
 GuardW (wantV v73 false) (fun K92 =>
 RdK (load1 none v91 h fun v _ => some v) h K92) h fun v93 h =>
 GuardW (wantV v73 false) (fun K94 =>
 CallW Tryz.prog 18 [v83, v93] h K94) h fun v95 h =>
 GuardW (wantV v73 false) (fun K96 =>
 RdK (unB none .not v95 h fun v _ => some v) h K96) h fun v97 h =>
 RdK (pickB none v73 (Value.bool true) v97 h fun v _ => some v) h fun v98 h =>
 CondW v98 (
 κ (Value.bool false) h) (
 binB False Tryz.prog .add 3 true false (slot l59 32) (Value.int .i64 (1)) h fun v99 h =>
 N58 [(slot l59 32), v38, v60, v61, v62, v63, v64, v65, v66, v67, v68, v69, v70, v71, v72, v73, v75, v77, v79, v81, v83, v85, v87, v89, v91, v93, v95, v97, v98, (slot l59 29), (slot l59 32), v99, v99] h)

noncomputable def rs_4_1 (v38 : Value) (l59 : List Value) (v22 : Value) (N58 : List Value → Heap → Prop) (v10 : Value) (v23 : Value) (h : Heap) (κ : Value → Heap → Prop) : Prop :=
 lenSli False v38 h fun v60 h =>
 binB False Tryz.prog .lss 3 false false (slot l59 32) v60 h fun v61 h =>
 CondW v61 (
 rs_4_0 v38 l59 v22 N58 v60 v61 h κ) (
 CallW Tryz.prog 16 [v10] h fun v100 h =>
 CallW Tryz.prog 19 [v100, v23] h fun v101 h =>
 κ v101 h)

noncomputable def rs_4_2 (v10 : Value) (v31 : Value) (v22 : Value) (v23 : Value) (h : Heap) (κ : Value → Heap → Prop) : Prop :=
 CallW Tryz.prog 17 [v10, v31] h fun v35 h =>
 extractB False 0 v35 h fun v36 h =>
 extractB False 1 v35 h fun v37 h =>
 CallW Tryz.prog 15 [v10] h fun v38 h =>
 binB False Tryz.prog .neq 26 true false v37 (Value.int .i64 (0)) h fun v39 h =>
 GuardW (wantV v39 false) (fun K40 =>
 K40 v36 h) h fun v41 h =>
 GuardW (wantV v39 false) (fun K42 =>
 lenSli False v41 h K42) h fun v43 h =>
 GuardW (wantV v39 false) (fun K44 =>
 binB False Tryz.prog .gtr 3 true false v43 (Value.int .i64 (0)) h K44) h fun v45 h =>
 pickB False v39 (Value.bool true) v45 h fun v46 h =>
 GuardW (wantV v46 false) (fun K47 =>
 K47 v38 h) h fun v48 h =>
 GuardW (wantV v46 false) (fun K49 =>
 lenSli False v48 h K49) h fun v50 h =>
 GuardW (wantV v46 false) (fun K51 =>
 K51 v22 h) h fun v52 h =>
 GuardW (wantV v46 false) (fun K53 =>
 lenSli False v52 h K53) h fun v54 h =>
 GuardW (wantV v46 false) (fun K55 =>
 binB False Tryz.prog .neq 3 false false v50 v54 h K55) h fun v56 h =>
 pickB False v46 (Value.bool true) v56 h fun v57 h =>
 CondW v57 (
 κ (Value.bool false) h) (
 LoopR [undef, undef, undef, undef, undef, undef, undef, undef, undef, undef, undef, undef, undef, undef, undef, undef, undef, undef, undef, undef, undef, undef, undef, undef, undef, undef, undef, undef, undef, (Value.bool false), undef, undef, (Value.int .i64 (0))] h fun l59 h N58 =>
 rs_4_1 v38 l59 v22 N58 v10 v23 h κ)

noncomputable def rs_4_3 (v10 : Value) (v22 : Value) (v23 : Value) (h : Heap) (κ : Value → Heap → Prop) : Prop :=
 CallW Tryz.prog 15 [v10] h fun v102 h =>
 CallW Tryz.prog 20 [v102, v22] h fun v103 h =>
 GuardW (wantV v103 true) (fun K104 =>
 K104 v10 h) h fun v105 h =>
 GuardW (wantV v103 true) (fun K106 =>
 CallW Tryz.prog 16 [v105] h K106) h fun v107 h =>
 GuardW (wantV v103 true) (fun K108 =>
 K108 v23 h) h fun v109 h =>
 GuardW (wantV v103 true) (fun K110 =>
 CallW Tryz.prog 19 [v107, v109] h K110) h fun v111 h =>
 pickB False v103 v111 (Value.bool false) h fun v112 h =>
 κ v112 h

noncomputable def rs_4_4 (v10 : Value) (b3 : Nat) (h : Heap) (κ : Value → Heap → Prop) : Prop :=
 CallW Tryz.prog 15 [v10] h fun v22 h =>
 CallW Tryz.prog 16 [v10] h fun v23 h =>
 fieldAddrB False 1 (ptrTo b3) h fun v24 h =>
 loadA False 2 v24 h fun v25 h =>
 fieldAddrB False 4 (ptrTo b3) h fun v26 h =>
 load1 False v26 h fun v27 h =>
 fieldAddrB False 5 (ptrTo b3) h fun v28 h =>
 load1 False v28 h fun v29 h =>
 CallW Tryz.prog 11 [v10, v25, v27, v29] h fun v30 h =>
 extractB False 0 v30 h fun v31 h =>
 extractB False 1 v30 h fun v32 h =>
 extractB False 2 v30 h fun v33 h =>
 binB False Tryz.prog .eql 26 true false v33 (Value.int .i64 (0)) h fun v34 h =>
 CondW v34 (
 rs_4_2 v10 v31 v22 v23 h κ) (
 rs_4_3 v10 v22 v23 h κ)

noncomputable def rs_4_5 (a1 : Value) (l15 : List Value) (v10 : Value) (N14 : List Value → Heap → Prop) (b3 : Nat) (h : Heap) (κ : Value → Heap → Prop) : Prop :=
 lenSli False a1 h fun v16 h =>
 binB False Tryz.prog .lss 3 false false (slot l15 12) v16 h fun v17 h =>
 CondW v17 (
 indexAddrS False 6 a1 (slot l15 12) h fun v18 h =>
 loadA False 6 v18 h fun v19 h =>
 CallW Tryz.prog 14 [v10, v19] h fun v20 h =>
 binB False Tryz.prog .add 3 true false (slot l15 12) (Value.int .i64 (1)) h fun v21 h =>
 N14 [(slot l15 12), a1, v16, v17, v10, a1, (slot l15 12), v18, v19, v20, (slot l15 12), v21, v21] h) (
 rs_4_4 v10 b3 h κ)

noncomputable def rs_4_6 (b1 : Nat) (a1 : Value) (b3 : Nat) (h : Heap) (κ : Value → Heap → Prop) : Prop :=
 loadA False 4 (ptrTo b1) h fun v8 h =>
 CallW Tryz.prog 10 [v8] h fun v9 h =>
 extractB False 0 v9 h fun v10 h =>
 extractB False 1 v9 h fun v11 h =>
 binB False Tryz.prog .neq 26 true false v11 (Value.int .i64 (0)) h fun v12 h =>
 CondW v12 (
 binB False Tryz.prog .eql 30 true false v10 (Value.pointer none) h fun v13 h =>
 κ v13 h) (
 LoopR [undef, undef, undef, undef, undef, undef, undef, undef, undef, undef, undef, undef, (Value.int .i64 (0))] h fun l15 h N14 =>
 rs_4_5 a1 l15 v10 N14 b3 h κ)

/-- latchstring/latchstringlaw12.TableRoom -/
theorem rs_4 (a0 a1 a2 : Value) (h : Heap) (κ : Value → Heap → Prop) : BodyW Tryz.prog 4 [a0, a1, a2] h κ = (
 cellsK False (Value.cells a0).toList 29 false fun o0 => newBlock False o0 h fun b1 h =>
 cellsK False (Value.cells a2).toList 35 false fun o2 => newBlock False o2 h fun b3 h =>
 CallW Tryz.prog 8 [] h fun v4 h =>
 unB False .not v4 h fun v5 h =>
 CondW v5 (
 κ (Value.bool false) h) (
 lenSli False a1 h fun v6 h =>
 binB False Tryz.prog .gtr 3 true false v6 (Value.int .i64 (50)) h fun v7 h =>
 CondW v7 (
 κ (Value.bool true) h) (
 rs_4_6 b1 a1 b3 h κ))) := by kernel_rfl

/-- latchstring/latchstringref02.Check -/
theorem rs_9 (a0 : Value) (h : Heap) (κ : Value → Heap → Prop) : BodyW Tryz.prog 9 [a0] h κ = (
 cellsK False (Value.cells a0).toList 24 false fun o0 => newBlock False o0 h fun b1 h =>
 loadA False 2 (ptrTo b1) h fun v2 h =>
 CallW Tryz.prog 43 [v2] h fun v3 h =>
 binB False Tryz.prog .lss 3 true false v3 (Value.int .i64 (0)) h fun v4 h =>
 CondW v4 (
 κ (Value.int .i64 (2)) h) (
 κ (Value.int .i64 (0)) h)) := by kernel_rfl

noncomputable def rs_10_0 (b44 : Nat) (v53 : Value) (l48 : List Value) (N47 : List Value → Heap → Prop) (v49 : Value) (v50 : Value) (v51 : Value) (v36 : Value) (v52 : Value) (v54 : Value) (v55 : Value) (h : Heap) : Prop :=
 nilB False (ptrTo b44) h fun v56 h =>
 fieldAddrB False 5 v56 h fun v57 h =>
 load1 False v57 h fun v58 h =>
 fillB False [(0, 1)] [v53] (repeatL [(Value.pointer none)] 1) fun cs61 => cellsK False cs61 89 false fun o59 => newBlock False o59 h fun b60 h =>
 appendB False 89 1 [(Value.pointer none)] false v58 (sliceTo 1 1 b60) h fun v62 h =>
 nilB False (ptrTo b44) h fun v63 h =>
 fieldAddrB False 5 v63 h fun v64 h =>
 storeV False 1 v64 v62 h fun v65 h =>
 binB False Tryz.prog .add 3 true false (slot l48 26) (Value.int .i64 (1)) h fun v66 h =>
 N47 [v49, v50, v51, v36, v52, v52, v53, v54, v53, v54, v54, v55, (slot l48 12), (slot l48 13), (slot l48 14), (ptrTo b44), (ptrTo b44), v56, v57, v58, v53, (sliceTo 1 1 b60), v62, v63, v64, v66, v66] h

noncomputable def rs_10_1 (b1 : Nat) (v36 : Value) (b44 : Nat) (l48 : List Value) (N47 : List Value → Heap → Prop) (v49 : Value) (h : Heap) (κ : Value → Heap → Prop) : Prop :=
 fieldAddrB False 1 (ptrTo b1) h fun v50 h =>
 load1 False v50 h fun v51 h =>
 CallW Tryz.prog 45 [v51, v36] h fun v52 h =>
 extractB False 0 v52 h fun v53 h =>
 extractB False 1 v52 h fun v54 h =>
 binB False Tryz.prog .neq 26 true false v54 (Value.int .i64 (0)) h fun v55 h =>
 CondW v55 (
 κ (Value.tuple (Array.mk [(Value.pointer none), v54])) h) (
 rs_10_0 b44 v53 l48 N47 v49 v50 v51 v36 v52 v54 v55 h)

noncomputable def rs_10_2 (b1 : Nat) (v36 : Value) (h : Heap) (κ : Value → Heap → Prop) : Prop :=
 loadA False 4 (ptrTo b1) h fun v39 h =>
 newBlock False (.map [] 0) h fun b41 h =>
 fillB False [(0, 4), (4, 1), (6, 1)] [v39, v36, (mapTo b41)] [(Value.int .i64 (0)), (Value.int .i64 (0)), (Value.int .i64 (0)), (Value.int .i64 (0)), (Value.pointer none), (Value.slice none 0 0), (Value.map none)] fun cs42 =>
 cellsK False (Value.cells (Value.agg (Array.mk cs42))).toList 88 false fun o43 => newBlock False o43 h fun b44 h =>
 fieldAddrB False 0 (ptrTo b1) h fun v45 h =>
 load1 False v45 h fun v46 h =>
 LoopR [undef, undef, undef, undef, undef, undef, undef, undef, undef, undef, undef, undef, undef, (Value.pointer none), (Value.int .i64 (0)), undef, undef, undef, undef, undef, undef, undef, undef, undef, undef, undef, (Value.int .i64 (0))] h fun l48 h N47 =>
 binB False Tryz.prog .lss 3 false false (slot l48 26) v46 h fun v49 h =>
 CondW v49 (
 rs_10_1 b1 v36 b44 l48 N47 v49 h κ) (
 κ (Value.tuple (Array.mk [(ptrTo b44), (Value.int .i64 (0))])) h)

noncomputable def rs_10_3 (b1 : Nat) (h : Heap) (κ : Value → Heap → Prop) : Prop :=
 fieldAddrB False 2 (ptrTo b1) h fun v33 h =>
 load1 False v33 h fun v34 h =>
 CallW Tryz.prog 44 [v34] h fun v35 h =>
 extractB False 0 v35 h fun v36 h =>
 extractB False 1 v35 h fun v37 h =>
 binB False Tryz.prog .neq 26 true false v37 (Value.int .i64 (0)) h fun v38 h =>
 CondW v38 (
 κ (Value.tuple (Array.mk [(Value.pointer none), v37])) h) (
 rs_10_2 b1 v36 h κ)

/-- latchstring/table.New -/
theorem rs_10 (a0 : Value) (h : Heap) (κ : Value → Heap → Prop) : BodyW Tryz.prog 10 [a0] h κ = (
 cellsK False (Value.cells a0).toList 29 false fun o0 => newBlock False o0 h fun b1 h =>
 fieldAddrB False 0 (ptrTo b1) h fun v2 h =>
 load1 False v2 h fun v3 h =>
 binB False Tryz.prog .lss 3 true false v3 (Value.int .i64 (1)) h fun v4 h =>
 GuardW (wantV v4 false) (fun K5 =>
 fieldAddrB False 0 (ptrTo b1) h K5) h fun v6 h =>
 GuardW (wantV v4 false) (fun K7 =>
 load1 False v6 h K7) h fun v8 h =>
 GuardW (wantV v4 false) (fun K9 =>
 binB False Tryz.prog .gtr 3 true false v8 (Value.int .i64 (16)) h K9) h fun v10 h =>
 pickB False v4 (Value.bool true) v10 h fun v11 h =>
 GuardW (wantV v11 false) (fun K12 =>
 fieldAddrB False 3 (ptrTo b1) h K12) h fun v13 h =>
 GuardW (wantV v11 false) (fun K14 =>
 load1 False v13 h K14) h fun v15 h =>
 GuardW (wantV v11 false) (fun K16 =>
 binB False Tryz.prog .lss 3 true false v15 (Value.int .i64 (0)) h K16) h fun v17 h =>
 pickB False v11 (Value.bool true) v17 h fun v18 h =>
 GuardW (wantV v18 false) (fun K19 =>
 fieldAddrB False 3 (ptrTo b1) h K19) h fun v20 h =>
 GuardW (wantV v18 false) (fun K21 =>
 load1 False v20 h K21) h fun v22 h =>
 GuardW (wantV v18 false) (fun K23 =>
 binB False Tryz.prog .gtr 3 true false v22 (Value.int .i64 (8)) h K23) h fun v24 h =>
 pickB False v18 (Value.bool true) v24 h fun v25 h =>
 GuardW (wantV v25 false) (fun K26 =>
 fieldAddrB False 2 (ptrTo b1) h K26) h fun v27 h =>
 GuardW (wantV v25 false) (fun K28 =>
 load1 False v27 h K28) h fun v29 h =>
 GuardW (wantV v25 false) (fun K30 =>
 binB False Tryz.prog .lss 3 true false v29 (Value.int .i64 (1)) h K30) h fun v31 h =>
 pickB False v25 (Value.bool true) v31 h fun v32 h =>
 CondW v32 (
 κ (Value.tuple (Array.mk [(Value.pointer none), (Value.int .i64 (2))])) h) (
 rs_10_3 b1 h κ)) := by kernel_rfl

noncomputable def rs_11_0 (v20 : Value) (a0 : Value) (v18 : Value) (v4 : Value) (N21 : List Value → Heap → Prop) (h : Heap) : Prop :=
 binB False Tryz.prog .eql 26 true false v20 (Value.int .i64 (0)) h fun v23 h =>
 CondW v23 (
 nilB False a0 h fun v24 h =>
 fieldAddrB False 6 v24 h fun v25 h =>
 load1 False v25 h fun v26 h =>
 mapUpdateB False Tryz.prog 3 v26 v18 v4 h fun v27 h =>
 N21 [v20, v23, a0, v24, v25, v26, v18, v4] h) (
 N21 [v20, v23, undef, undef, undef, undef, undef, undef] h)

noncomputable def rs_11_1 (a0 : Value) (v4 : Value) (b1 : Nat) (a2 : Value) (a3 : Value) (h : Heap) (κ : Value → Heap → Prop) : Prop :=
 RdK (some a0) h fun v6 h =>
 RdK (nilB none v6 h fun v _ => some v) h fun v7 h =>
 RdK (fieldAddrB none 5 v7 h fun v _ => some v) h fun v8 h =>
 RdK (load1 none v8 h fun v _ => some v) h fun v9 h =>
 RdK (some v4) h fun v10 h =>
 RdK (indexAddrS none 1 v9 v10 h fun v _ => some v) h fun v11 h =>
 RdK (load1 none v11 h fun v _ => some v) h fun v12 h =>
 RdK (loadA none 2 (ptrTo b1) h fun v _ => some v) h fun v13 h =>
 RdK (some a2) h fun v14 h =>
 RdK (some a3) h fun v15 h =>
 CallW Tryz.prog 46 [v12, v13, v14, v15] h fun v16 h =>
 RdK (some v16) h fun v17 h =>
 RdK (extractB none 0 v17 h fun v _ => some v) h fun v18 h =>
 RdK (extractB none 1 v17 h fun v _ => some v) h fun v19 h =>
 RdK (extractB none 2 v17 h fun v _ => some v) h fun v20 h =>
 SameK ((reV (extractB none 1 v17 h fun v _ => some v) v19) && ((reV (extractB none 2 v17 h fun v _ => some v) v20) && true)) (SameK ((reV (extractB none 2 v17 h fun v _ => some v) v20) && true) (JoinR (fun N21 =>
 rs_11_0 v20 a0 v18 v4 N21 h) fun l22 h =>
 κ (Value.tuple (Array.mk [v18, v19, v20])) h))

/-- (*latchstring/table.Table).Ask -/
theorem rs_11 (a0 a1 a2 a3 : Value) (h : Heap) (κ : Value → Heap → Prop) : BodyW Tryz.prog 11 [a0, a1, a2, a3] h κ = (
 cellsK False (Value.cells a1).toList 24 false fun o0 => newBlock False o0 h fun b1 h =>
 binB False Tryz.prog .eql 30 true false a0 (Value.pointer none) h fun v2 h =>
 CondW v2 (
 κ (Value.tuple (Array.mk [(Value.int .i64 (0)), (Value.bool false), (Value.int .i64 (1))])) h) (
 loadA False 2 (ptrTo b1) h fun v3 h =>
 CallW Tryz.prog 12 [a0, v3] h fun v4 h =>
 binB False Tryz.prog .lss 3 true false v4 (Value.int .i64 (0)) h fun v5 h =>
 CondW v5 (
 κ (Value.tuple (Array.mk [(Value.int .i64 (0)), (Value.bool false), (Value.int .i64 (2))])) h) (
 rs_11_1 a0 v4 b1 a2 a3 h κ))) := by kernel_rfl

noncomputable def rs_12_0 (b1 : Nat) (a0 : Value) (h : Heap) (κ : Value → Heap → Prop) : Prop :=
 RdK (loadA none 2 (ptrTo b1) h fun v _ => some v) h fun v3 h =>
 RdK (some a0) h fun v4 h =>
 RdK (nilB none v4 h fun v _ => some v) h fun v5 h =>
 RdK (fieldAddrB none 0 v5 h fun v _ => some v) h fun v6 h =>
 RdK (fieldAddrB none 0 v6 h fun v _ => some v) h fun v7 h =>
 RdK (load1 none v7 h fun v _ => some v) h fun v8 h =>
 CallW Tryz.prog 47 [v3, v8] h fun v9 h =>
 κ v9 h

/-- (*latchstring/table.Table).Stripe -/
theorem rs_12 (a0 a1 : Value) (h : Heap) (κ : Value → Heap → Prop) : BodyW Tryz.prog 12 [a0, a1] h κ = (
 cellsK False (Value.cells a1).toList 24 false fun o0 => newBlock False o0 h fun b1 h =>
 binB False Tryz.prog .eql 30 true false a0 (Value.pointer none) h fun v2 h =>
 CondW v2 (
 κ (Value.int .i64 (-1)) h) (
 rs_12_0 b1 a0 h κ)) := by kernel_rfl

noncomputable def rs_13_0 (v2 : Value) (l4 : List Value) (l8 : List Value) (N7 : List Value → Heap → Prop) (v9 : Value) (v10 : Value) (v11 : Value) (v12 : Value) (v13 : Value) (v14 : Value) (v15 : Value) (v16 : Value) (v18 : Value) (v20 : Value) (v22 : Value) (v24 : Value) (v26 : Value) (v28 : Value) (v30 : Value) (v32 : Value) (v33 : Value) (h : Heap) : Prop :=
 indexAddrS False 4 v2 (slot l4 52) h fun v34 h =>
 fieldAddrB False 2 v34 h fun v35 h =>
 load1 False v35 h fun v36 h =>
 indexAddrS False 5 v36 (slot l8 45) h fun v37 h =>
 loadA False 5 v37 h fun v38 h =>
 cellsK False [(Value.int .i64 (0)), (Value.int .i64 (0)), (Value.int .i64 (0)), (Value.int .i64 (0)), (Value.int .i64 (0))] 54 false fun o39 => newBlock False o39 h fun b40 h =>
 storeV False 5 (ptrTo b40) v38 h fun v41 h =>
 fieldAddrB False 1 (ptrTo b40) h fun v42 h =>
 load1 False v42 h fun v43 h =>
 convI False .u8 v43 h fun v44 h =>
 fieldAddrB False 2 (ptrTo b40) h fun v45 h =>
 load1 False v45 h fun v46 h =>
 convI False .u8 v46 h fun v47 h =>
 fieldAddrB False 3 (ptrTo b40) h fun v48 h =>
 load1 False v48 h fun v49 h =>
 convI False .u8 v49 h fun v50 h =>
 fieldAddrB False 4 (ptrTo b40) h fun v51 h =>
 load1 False v51 h fun v52 h =>
 convI False .u8 v52 h fun v53 h =>
 fillB False [(0, 1), (1, 1), (2, 1), (3, 1)] [v44, v47, v50, v53] (repeatL [(Value.int .u8 (0))] 4) fun cs56 => cellsK False cs56 5 false fun o54 => newBlock False o54 h fun b55 h =>
 bytesStr False (sliceTo 4 4 b55) h fun v57 h =>
 binB False Tryz.prog .add 9 false false (slot l8 42) v57 h fun v58 h =>
 binB False Tryz.prog .add 3 true false (slot l8 45) (Value.int .i64 (1)) h fun v59 h =>
 N7 [v9, v10, v11, v12, v13, v14, v15, v16, v18, v20, v22, v24, v26, v28, v30, v32, v33, v2, (slot l4 52), v34, v35, v36, (slot l8 45), v37, v38, (ptrTo b40), (slot l8 42), v42, v43, v44, v45, v46, v47, v48, v49, v50, v51, v52, v53, (sliceTo 4 4 b55), v57, v58, v58, (slot l8 45), v59, v59] h

noncomputable def rs_13_1 (v2 : Value) (l4 : List Value) (b1 : Nat) (l8 : List Value) (N7 : List Value → Heap → Prop) (N3 : List Value → Heap → Prop) (v5 : Value) (v6 : Value) (h : Heap) : Prop :=
 RdK (some v2) h fun v9 h =>
 RdK (some (slot l4 52)) h fun v10 h =>
 RdK (indexAddrS none 4 v9 v10 h fun v _ => some v) h fun v11 h =>
 RdK (fieldAddrB none 0 v11 h fun v _ => some v) h fun v12 h =>
 RdK (loadA none 2 v12 h fun v _ => some v) h fun v13 h =>
 RdK (loadA none 2 (ptrTo b1) h fun v _ => some v) h fun v14 h =>
 RdK (binB none Tryz.prog .eql 24 false false v13 v14 h fun v _ => some v) h fun v15 h =>
 RdK (some v15) h fun v16 h =>
 GuardW (wantV v16 true) (fun K17 =>
 RdK (some (slot l8 45)) h K17) h fun v18 h =>
 GuardW (wantV v16 true) (fun K19 =>
 RdK (some v2) h K19) h fun v20 h =>
 GuardW (wantV v16 true) (fun K21 =>
 RdK (some (slot l4 52)) h K21) h fun v22 h =>
 GuardW (wantV v16 true) (fun K23 =>
 RdK (indexAddrS none 4 v20 v22 h fun v _ => some v) h K23) h fun v24 h =>
 GuardW (wantV v16 true) (fun K25 =>
 RdK (fieldAddrB none 2 v24 h fun v _ => some v) h K25) h fun v26 h =>
 GuardW (wantV v16 true) (fun K27 =>
 RdK (load1 none v26 h fun v _ => some v) h K27) h fun v28 h =>
 GuardW (wantV v16 true) (fun K29 =>
 RdK (lenSli none v28 h fun v _ => some v) h K29) h fun v30 h =>
 GuardW (wantV v16 true) (fun K31 =>
 RdK (binB none Tryz.prog .lss 3 false false v18 v30 h fun v _ => some v) h K31) h fun v32 h =>
 RdK (pickB none v16 v32 (Value.bool false) h fun v _ => some v) h fun v33 h =>
 CondW v33 (
 rs_13_0 v2 l4 l8 N7 v9 v10 v11 v12 v13 v14 v15 v16 v18 v20 v22 v24 v26 v28 v30 v32 v33 h) (
 binB False Tryz.prog .add 3 true false (slot l4 52) (Value.int .i64 (1)) h fun v60 h =>
 N3 [(slot l4 52), v2, v5, v6, v9, v10, v11, v12, v13, v14, v15, v16, v18, v20, v22, v24, v26, v28, v30, v32, v33, (slot l8 17), (slot l8 18), (slot l8 19), (slot l8 20), (slot l8 21), (slot l8 22), (slot l8 23), (slot l8 24), (slot l8 25), (slot l8 26), (slot l8 27), (slot l8 28), (slot l8 29), (slot l8 30), (slot l8 31), (slot l8 32), (slot l8 33), (slot l8 34), (slot l8 35), (slot l8 36), (slot l8 37), (slot l8 38), (slot l8 39), (slot l8 40), (slot l8 41), (slot l8 42), (slot l8 43), (slot l8 44), (slot l8 45), (slot l4 52), v60, v60] h)

/-- latchstring/latchstringlaw12.told -/
theorem rs_13 (a0 a1 : Value) (h : Heap) (κ : Value → Heap → Prop) : BodyW Tryz.prog 13 [a0, a1] h κ = (
 cellsK False (Value.cells a1).toList 24 false fun o0 => newBlock False o0 h fun b1 h =>
 CallW Tryz.prog 15 [a0] h fun v2 h =>
 LoopR [undef, undef, undef, undef, undef, undef, undef, undef, undef, undef, undef, undef, undef, undef, undef, undef, undef, undef, undef, undef, undef, undef, undef, undef, undef, undef, undef, undef, undef, undef, undef, undef, undef, undef, undef, undef, undef, undef, undef, undef, undef, undef, undef, undef, undef, undef, (Value.string (ByteArray.mk (Array.mk []))), undef, undef, undef, undef, undef, (Value.int .i64 (0))] h fun l4 h N3 =>
 lenSli False v2 h fun v5 h =>
 binB False Tryz.prog .lss 3 false false (slot l4 52) v5 h fun v6 h =>
 CondW v6 (
 LoopR [(slot l4 4), (slot l4 5), (slot l4 6), (slot l4 7), (slot l4 8), (slot l4 9), (slot l4 10), (slot l4 11), (slot l4 12), (slot l4 13), (slot l4 14), (slot l4 15), (slot l4 16), (slot l4 17), (slot l4 18), (slot l4 19), (slot l4 20), (slot l4 21), (slot l4 22), (slot l4 23), (slot l4 24), (slot l4 25), (slot l4 26), (slot l4 27), (slot l4 28), (slot l4 29), (slot l4 30), (slot l4 31), (slot l4 32), (slot l4 33), (slot l4 34), (slot l4 35), (slot l4 36), (slot l4 37), (slot l4 38), (slot l4 39), (slot l4 40), (slot l4 41), (slot l4 42), (slot l4 43), (slot l4 44), (slot l4 45), (slot l4 46), (slot l4 47), (slot l4 48), (Value.int .i64 (0))] h fun l8 h N7 =>
 rs_13_1 v2 l4 b1 l8 N7 N3 v5 v6 h) (
 κ (slot l4 46) h)) := by kernel_rfl

noncomputable def rs_14_0 (b1 : Nat) (a0 : Value) (h : Heap) (κ : Value → Heap → Prop) : Prop :=
 fieldAddrB False 1 (ptrTo b1) h fun v25 h =>
 loadA False 2 v25 h fun v26 h =>
 fieldAddrB False 4 (ptrTo b1) h fun v27 h =>
 load1 False v27 h fun v28 h =>
 fieldAddrB False 5 (ptrTo b1) h fun v29 h =>
 load1 False v29 h fun v30 h =>
 CallW Tryz.prog 11 [a0, v26, v28, v30] h fun v31 h =>
 κ (Value.tuple (Array.mk [])) h

noncomputable def rs_14_1 (v4 : Value) (b1 : Nat) (a0 : Value) (h : Heap) (κ : Value → Heap → Prop) : Prop :=
 binB False Tryz.prog .eql 3 true false v4 (Value.int .i64 (5)) h fun v19 h =>
 CondW v19 (
 fieldAddrB False 3 (ptrTo b1) h fun v20 h =>
 load1 False v20 h fun v21 h =>
 fieldAddrB False 4 (ptrTo b1) h fun v22 h =>
 load1 False v22 h fun v23 h =>
 CallW Tryz.prog 50 [a0, v21, v23] h fun v24 h =>
 κ (Value.tuple (Array.mk [])) h) (
 rs_14_0 b1 a0 h κ)

noncomputable def rs_14_2 (v4 : Value) (b1 : Nat) (a0 : Value) (h : Heap) (κ : Value → Heap → Prop) : Prop :=
 binB False Tryz.prog .eql 3 true false v4 (Value.int .i64 (4)) h fun v15 h =>
 CondW v15 (
 fieldAddrB False 3 (ptrTo b1) h fun v16 h =>
 load1 False v16 h fun v17 h =>
 CallW Tryz.prog 49 [a0, v17] h fun v18 h =>
 κ (Value.tuple (Array.mk [])) h) (
 rs_14_1 v4 b1 a0 h κ)

noncomputable def rs_14_3 (v4 : Value) (b1 : Nat) (a0 : Value) (h : Heap) (κ : Value → Heap → Prop) : Prop :=
 binB False Tryz.prog .eql 3 true false v4 (Value.int .i64 (3)) h fun v11 h =>
 CondW v11 (
 fieldAddrB False 3 (ptrTo b1) h fun v12 h =>
 load1 False v12 h fun v13 h =>
 CallW Tryz.prog 17 [a0, v13] h fun v14 h =>
 κ (Value.tuple (Array.mk [])) h) (
 rs_14_2 v4 b1 a0 h κ)

/-- latchstring/latchstringlaw12.call -/
theorem rs_14 (a0 a1 : Value) (h : Heap) (κ : Value → Heap → Prop) : BodyW Tryz.prog 14 [a0, a1] h κ = (
 cellsK False (Value.cells a1).toList 35 false fun o0 => newBlock False o0 h fun b1 h =>
 fieldAddrB False 0 (ptrTo b1) h fun v2 h =>
 load1 False v2 h fun v3 h =>
 CallW Tryz.prog 26 [v3, (Value.int .i64 (6))] h fun v4 h =>
 binB False Tryz.prog .eql 3 true false v4 (Value.int .i64 (2)) h fun v5 h =>
 CondW v5 (
 fieldAddrB False 3 (ptrTo b1) h fun v6 h =>
 load1 False v6 h fun v7 h =>
 fieldAddrB False 5 (ptrTo b1) h fun v8 h =>
 load1 False v8 h fun v9 h =>
 CallW Tryz.prog 48 [a0, v7, v9] h fun v10 h =>
 κ (Value.tuple (Array.mk [])) h) (
 rs_14_3 v4 b1 a0 h κ)) := by kernel_rfl

noncomputable def rs_15_0 (l6 : List Value) (v4 : Value) (v3 : Value) (N5 : List Value → Heap → Prop) (h : Heap) (κ : Value → Heap → Prop) : Prop :=
 binB False Tryz.prog .lss 3 false false (slot l6 10) v4 h fun v7 h =>
 CondW v7 (
 indexAddrS False 1 v3 (slot l6 10) h fun v8 h =>
 load1 False v8 h fun v9 h =>
 CallW Tryz.prog 51 [v9] h fun v10 h =>
 appendB False 51 4 [(Value.int .i64 (0)), (Value.int .i64 (0)), (Value.slice none 0 0), (Value.int .i64 (0))] false (slot l6 8) v10 h fun v11 h =>
 binB False Tryz.prog .add 3 true false (slot l6 10) (Value.int .i64 (1)) h fun v12 h =>
 N5 [v7, v8, v9, v9, (slot l6 8), v9, v10, v11, v11, v12, v12] h) (
 CallW Tryz.prog 52 [(slot l6 8), (Value.func (.func 53) (Array.mk []) (Array.mk []))] h fun v13 h =>
 κ (slot l6 8) h)

/-- (*latchstring/table.Table).Snapshot -/
theorem rs_15 (a0 : Value) (h : Heap) (κ : Value → Heap → Prop) : BodyW Tryz.prog 15 [a0] h κ = (
 binB False Tryz.prog .eql 30 true false a0 (Value.pointer none) h fun v0 h =>
 CondW v0 (
 κ (Value.slice none 0 0) h) (
 nilB False a0 h fun v1 h =>
 fieldAddrB False 5 v1 h fun v2 h =>
 load1 False v2 h fun v3 h =>
 lenSli False v3 h fun v4 h =>
 LoopR [undef, undef, undef, undef, undef, undef, undef, undef, (Value.slice none 0 0), undef, (Value.int .i64 (0))] h fun l6 h N5 =>
 rs_15_0 l6 v4 v3 N5 h κ)) := by kernel_rfl

noncomputable def rs_16_0 (b21 : Nat) (b8 : Nat) (l14 : List Value) (N16 : List Value → Heap → Prop) (v18 : Value) (v19 : Value) (v23 : Value) (v24 : Value) (v25 : Value) (h : Heap) : Prop :=
 fieldAddrB False 1 (ptrTo b21) h fun v26 h =>
 load1 False v26 h fun v27 h =>
 fieldAddrB False 0 (ptrTo b8) h fun v28 h =>
 loadA False 2 v28 h fun v29 h =>
 fieldAddrB False 2 (ptrTo b21) h fun v30 h =>
 load1 False v30 h fun v31 h =>
 fillB False [(0, 1), (1, 2), (3, 1)] [v27, v29, v31] [(Value.int .i64 (0)), (Value.int .i64 (0)), (Value.int .i64 (0)), (Value.int .i64 (0))] fun cs32 =>
 fillB False [(0, 4)] [(Value.agg (Array.mk cs32))] (repeatL [(Value.int .i64 (0)), (Value.int .i64 (0)), (Value.int .i64 (0)), (Value.int .i64 (0))] 1) fun cs35 => cellsK False cs35 57 false fun o33 => newBlock False o33 h fun b34 h =>
 appendB False 57 4 [(Value.int .i64 (0)), (Value.int .i64 (0)), (Value.int .i64 (0)), (Value.int .i64 (0))] false (slot l14 17) (sliceTo 1 1 b34) h fun v36 h =>
 N16 [v18, v19, (ptrTo b21), v23, v24, v25, (slot l14 17), v26, v27, v28, v29, v30, v31, (Value.agg (Array.mk cs32)), (sliceTo 1 1 b34), v36, v36] h

noncomputable def rs_16_1 (v11 : Value) (l14 : List Value) (b8 : Nat) (N16 : List Value → Heap → Prop) (h : Heap) : Prop :=
 indexAddrS False 5 v11 (slot l14 19) h fun v18 h =>
 loadA False 5 v18 h fun v19 h =>
 cellsK False [(Value.int .i64 (0)), (Value.int .i64 (0)), (Value.int .i64 (0)), (Value.int .i64 (0)), (Value.int .i64 (0))] 54 false fun o20 => newBlock False o20 h fun b21 h =>
 storeV False 5 (ptrTo b21) v19 h fun v22 h =>
 fieldAddrB False 2 (ptrTo b21) h fun v23 h =>
 load1 False v23 h fun v24 h =>
 binB False Tryz.prog .neq 33 true false v24 (Value.int .i64 (0)) h fun v25 h =>
 CondW v25 (
 rs_16_0 b21 b8 l14 N16 v18 v19 v23 v24 v25 h) (
 N16 [v18, v19, (ptrTo b21), v23, v24, v25, (slot l14 7), (slot l14 8), (slot l14 9), (slot l14 10), (slot l14 11), (slot l14 12), (slot l14 13), (slot l14 14), (slot l14 15), (slot l14 16), (slot l14 17)] h)

noncomputable def rs_16_2 (l14 : List Value) (v12 : Value) (v11 : Value) (b8 : Nat) (N13 : List Value → Heap → Prop) (l3 : List Value) (N2 : List Value → Heap → Prop) (v4 : Value) (v5 : Value) (v6 : Value) (v10 : Value) (h : Heap) : Prop :=
 binB False Tryz.prog .lss 3 false false (slot l14 19) v12 h fun v15 h =>
 CondW v15 (
 JoinR (fun N16 =>
 rs_16_1 v11 l14 b8 N16 h) fun l17 h =>
 binB False Tryz.prog .add 3 true false (slot l14 19) (Value.int .i64 (1)) h fun v37 h =>
 N13 [v15, (slot l17 0), (slot l17 1), (slot l17 2), (slot l17 3), (slot l17 4), (slot l17 5), (slot l17 6), (slot l17 7), (slot l17 8), (slot l17 9), (slot l17 10), (slot l17 11), (slot l17 12), (slot l17 13), (slot l17 14), (slot l17 15), (slot l17 16), v37, v37] h) (
 binB False Tryz.prog .add 3 true false (slot l3 28) (Value.int .i64 (1)) h fun v38 h =>
 N2 [v4, v5, v6, (ptrTo b8), v10, v11, v12, v15, (slot l14 1), (slot l14 2), (slot l14 3), (slot l14 4), (slot l14 5), (slot l14 6), (slot l14 7), (slot l14 8), (slot l14 9), (slot l14 10), (slot l14 11), (slot l14 12), (slot l14 13), (slot l14 14), (slot l14 15), (slot l14 16), (slot l14 17), (slot l14 18), (slot l14 19), v38, v38] h)

noncomputable def rs_16_3 (v0 : Value) (l3 : List Value) (N2 : List Value → Heap → Prop) (v4 : Value) (h : Heap) : Prop :=
 indexAddrS False 4 v0 (slot l3 28) h fun v5 h =>
 loadA False 4 v5 h fun v6 h =>
 cellsK False [(Value.int .i64 (0)), (Value.int .i64 (0)), (Value.slice none 0 0), (Value.int .i64 (0))] 51 false fun o7 => newBlock False o7 h fun b8 h =>
 storeV False 4 (ptrTo b8) v6 h fun v9 h =>
 fieldAddrB False 2 (ptrTo b8) h fun v10 h =>
 load1 False v10 h fun v11 h =>
 lenSli False v11 h fun v12 h =>
 LoopR [(slot l3 7), (slot l3 8), (slot l3 9), (slot l3 10), (slot l3 11), (slot l3 12), (slot l3 13), (slot l3 14), (slot l3 15), (slot l3 16), (slot l3 17), (slot l3 18), (slot l3 19), (slot l3 20), (slot l3 21), (slot l3 22), (slot l3 23), (slot l3 24), (slot l3 25), (Value.int .i64 (0))] h fun l14 h N13 =>
 rs_16_2 l14 v12 v11 b8 N13 l3 N2 v4 v5 v6 v10 h

/-- (*latchstring/table.Table).All -/
theorem rs_16 (a0 : Value) (h : Heap) (κ : Value → Heap → Prop) : BodyW Tryz.prog 16 [a0] h κ = (
 CallW Tryz.prog 15 [a0] h fun v0 h =>
 lenSli False v0 h fun v1 h =>
 LoopR [undef, undef, undef, undef, undef, undef, undef, undef, undef, undef, undef, undef, undef, undef, undef, undef, undef, undef, undef, undef, undef, undef, undef, undef, (Value.slice none 0 0), undef, undef, undef, (Value.int .i64 (0))] h fun l3 h N2 =>
 binB False Tryz.prog .lss 3 false false (slot l3 28) v1 h fun v4 h =>
 CondW v4 (
 rs_16_3 v0 l3 N2 v4 h) (
 CallW Tryz.prog 55 [(slot l3 24), (Value.func (.func 56) (Array.mk []) (Array.mk []))] h fun v39 h =>
 κ (slot l3 24) h)) := by kernel_rfl

/-- (*latchstring/table.Table).Leave -/
theorem rs_17 (a0 a1 : Value) (h : Heap) (κ : Value → Heap → Prop) : BodyW Tryz.prog 17 [a0, a1] h κ = (
 CallW Tryz.prog 59 [a0, a1] h fun v0 h =>
 binB False Tryz.prog .eql 89 true false v0 (Value.pointer none) h fun v1 h =>
 CondW v1 (
 CallW Tryz.prog 60 [a0] h fun v2 h =>
 κ (Value.tuple (Array.mk [(Value.slice none 0 0), v2])) h) (
 CallW Tryz.prog 61 [v0, a1] h fun v3 h =>
 extractB False 0 v3 h fun v4 h =>
 extractB False 1 v3 h fun v5 h =>
 κ (Value.tuple (Array.mk [v4, v5])) h)) := by kernel_rfl

noncomputable def rs_18_0 (a0 : Value) (l4 : List Value) (a1 : Value) (N3 : List Value → Heap → Prop) (v5 : Value) (v6 : Value) (h : Heap) (κ : Value → Heap → Prop) : Prop :=
 RdK (some a0) h fun v7 h =>
 RdK (some (slot l4 16)) h fun v8 h =>
 RdK (indexAddrS none 5 v7 v8 h fun v _ => some v) h fun v9 h =>
 RdK (loadA none 5 v9 h fun v _ => some v) h fun v10 h =>
 RdK (some a1) h fun v11 h =>
 RdK (some (slot l4 16)) h fun v12 h =>
 RdK (indexAddrS none 5 v11 v12 h fun v _ => some v) h fun v13 h =>
 RdK (loadA none 5 v13 h fun v _ => some v) h fun v14 h =>
 RdK (binB none Tryz.prog .neq 54 false false v10 v14 h fun v _ => some v) h fun v15 h =>
 CondW v15 (
 κ (Value.bool false) h) (
 binB False Tryz.prog .add 3 true false (slot l4 16) (Value.int .i64 (1)) h fun v16 h =>
 N3 [(slot l4 16), a0, v5, v6, v7, v8, v9, v10, v11, v12, v13, v14, v15, (slot l4 13), (slot l4 16), v16, v16] h)

/-- latchstring/latchstringkit.Same[latchstring/api.Request] -/
theorem rs_18 (a0 a1 : Value) (h : Heap) (κ : Value → Heap → Prop) : BodyW Tryz.prog 18 [a0, a1] h κ = (
 lenSli False a0 h fun v0 h =>
 lenSli False a1 h fun v1 h =>
 binB False Tryz.prog .neq 3 false false v0 v1 h fun v2 h =>
 CondW v2 (
 κ (Value.bool false) h) (
 LoopR [undef, undef, undef, undef, undef, undef, undef, undef, undef, undef, undef, undef, undef, (Value.bool false), undef, undef, (Value.int .i64 (0))] h fun l4 h N3 =>
 lenSli False a0 h fun v5 h =>
 binB False Tryz.prog .lss 3 false false (slot l4 16) v5 h fun v6 h =>
 CondW v6 (
 rs_18_0 a0 l4 a1 N3 v5 v6 h κ) (
 κ (Value.bool true) h))) := by kernel_rfl

noncomputable def rs_19_0 (a0 : Value) (l4 : List Value) (a1 : Value) (N3 : List Value → Heap → Prop) (v5 : Value) (v6 : Value) (h : Heap) (κ : Value → Heap → Prop) : Prop :=
 RdK (some a0) h fun v7 h =>
 RdK (some (slot l4 16)) h fun v8 h =>
 RdK (indexAddrS none 4 v7 v8 h fun v _ => some v) h fun v9 h =>
 RdK (loadA none 4 v9 h fun v _ => some v) h fun v10 h =>
 RdK (some a1) h fun v11 h =>
 RdK (some (slot l4 16)) h fun v12 h =>
 RdK (indexAddrS none 4 v11 v12 h fun v _ => some v) h fun v13 h =>
 RdK (loadA none 4 v13 h fun v _ => some v) h fun v14 h =>
 RdK (binB none Tryz.prog .neq 57 false false v10 v14 h fun v _ => some v) h fun v15 h =>
 CondW v15 (
 κ (Value.bool false) h) (
 binB False Tryz.prog .add 3 true false (slot l4 16) (Value.int .i64 (1)) h fun v16 h =>
 N3 [(slot l4 16), a0, v5, v6, v7, v8, v9, v10, v11, v12, v13, v14, v15, (slot l4 13), (slot l4 16), v16, v16] h)

/-- latchstring/latchstringkit.Same[latchstring/api.Held] -/
theorem rs_19 (a0 a1 : Value) (h : Heap) (κ : Value → Heap → Prop) : BodyW Tryz.prog 19 [a0, a1] h κ = (
 lenSli False a0 h fun v0 h =>
 lenSli False a1 h fun v1 h =>
 binB False Tryz.prog .neq 3 false false v0 v1 h fun v2 h =>
 CondW v2 (
 κ (Value.bool false) h) (
 LoopR [undef, undef, undef, undef, undef, undef, undef, undef, undef, undef, undef, undef, undef, (Value.bool false), undef, undef, (Value.int .i64 (0))] h fun l4 h N3 =>
 lenSli False a0 h fun v5 h =>
 binB False Tryz.prog .lss 3 false false (slot l4 16) v5 h fun v6 h =>
 CondW v6 (
 rs_19_0 a0 l4 a1 N3 v5 v6 h κ) (
 κ (Value.bool true) h))) := by kernel_rfl

noncomputable def rs_20_0 (a0 : Value) (l4 : List Value) (a1 : Value) (N3 : List Value → Heap → Prop) (v5 : Value) (v6 : Value) (h : Heap) (κ : Value → Heap → Prop) : Prop :=
 RdK (some a0) h fun v7 h =>
 RdK (some (slot l4 45)) h fun v8 h =>
 RdK (indexAddrS none 4 v7 v8 h fun v _ => some v) h fun v9 h =>
 RdK (fieldAddrB none 0 v9 h fun v _ => some v) h fun v10 h =>
 RdK (loadA none 2 v10 h fun v _ => some v) h fun v11 h =>
 RdK (some a1) h fun v12 h =>
 RdK (some (slot l4 45)) h fun v13 h =>
 RdK (indexAddrS none 4 v12 v13 h fun v _ => some v) h fun v14 h =>
 RdK (fieldAddrB none 0 v14 h fun v _ => some v) h fun v15 h =>
 RdK (loadA none 2 v15 h fun v _ => some v) h fun v16 h =>
 RdK (binB none Tryz.prog .neq 24 false false v11 v16 h fun v _ => some v) h fun v17 h =>
 RdK (some v17) h fun v18 h =>
 GuardW (wantV v18 false) (fun K19 =>
 RdK (some a0) h K19) h fun v20 h =>
 GuardW (wantV v18 false) (fun K21 =>
 RdK (some (slot l4 45)) h K21) h fun v22 h =>
 GuardW (wantV v18 false) (fun K23 =>
 RdK (indexAddrS none 4 v20 v22 h fun v _ => some v) h K23) h fun v24 h =>
 GuardW (wantV v18 false) (fun K25 =>
 RdK (fieldAddrB none 3 v24 h fun v _ => some v) h K25) h fun v26 h =>
 GuardW (wantV v18 false) (fun K27 =>
 RdK (load1 none v26 h fun v _ => some v) h K27) h fun v28 h =>
 GuardW (wantV v18 false) (fun K29 =>
 RdK (some a1) h K29) h fun v30 h =>
 GuardW (wantV v18 false) (fun K31 =>
 RdK (some (slot l4 45)) h K31) h fun v32 h =>
 GuardW (wantV v18 false) (fun K33 =>
 RdK (indexAddrS none 4 v30 v32 h fun v _ => some v) h K33) h fun v34 h =>
 GuardW (wantV v18 false) (fun K35 =>
 RdK (fieldAddrB none 3 v34 h fun v _ => some v) h K35) h fun v36 h =>
 GuardW (wantV v18 false) (fun K37 =>
 RdK (load1 none v36 h fun v _ => some v) h K37) h fun v38 h =>
 GuardW (wantV v18 false) (fun K39 =>
 RdK (binB none Tryz.prog .neq 3 false false v28 v38 h fun v _ => some v) h K39) h fun v40 h =>
 RdK (pickB none v18 (Value.bool true) v40 h fun v _ => some v) h fun v41 h =>
 RdK (some v41) h fun v42 h =>
 GuardW (wantV v42 false) (fun K43 =>
 RdK (some a0) h K43) h fun v44 h =>
 GuardW (wantV v42 false) (fun K45 =>
 RdK (some (slot l4 45)) h K45) h fun v46 h =>
 GuardW (wantV v42 false) (fun K47 =>
 RdK (indexAddrS none 4 v44 v46 h fun v _ => some v) h K47) h fun v48 h =>
 GuardW (wantV v42 false) (fun K49 =>
 RdK (fieldAddrB none 2 v48 h fun v _ => some v) h K49) h fun v50 h =>
 GuardW (wantV v42 false) (fun K51 =>
 RdK (load1 none v50 h fun v _ => some v) h K51) h fun v52 h =>
 GuardW (wantV v42 false) (fun K53 =>
 RdK (some a1) h K53) h fun v54 h =>
 GuardW (wantV v42 false) (fun K55 =>
 RdK (some (slot l4 45)) h K55) h fun v56 h =>
 GuardW (wantV v42 false) (fun K57 =>
 RdK (indexAddrS none 4 v54 v56 h fun v _ => some v) h K57) h fun v58 h =>
 GuardW (wantV v42 false) (fun K59 =>
 RdK (fieldAddrB none 2 v58 h fun v _ => some v) h K59) h fun v60 h =>
 GuardW (wantV v42 false) (fun K61 =>
 RdK (load1 none v60 h fun v _ => some v) h K61) h fun v62 h =>
 GuardW (wantV v42 false) (fun K63 =>
 CallW Tryz.prog 18 [v52, v62] h K63) h fun v64 h =>
 GuardW (wantV v42 false) (fun K65 =>
 RdK (unB none .not v64 h fun v _ => some v) h K65) h fun v66 h =>
 RdK (pickB none v42 (Value.bool true) v66 h fun v _ => some v) h fun v67 h =>
 CondW v67 (
 κ (Value.bool false) h) (
 binB False Tryz.prog .add 3 true false (slot l4 45) (Value.int .i64 (1)) h fun v68 h =>
 N3 [(slot l4 45), a0, v5, v6, v7, v8, v9, v10, v11, v12, v13, v14, v15, v16, v17, v18, v20, v22, v24, v26, v28, v30, v32, v34, v36, v38, v40, v41, v42, v44, v46, v48, v50, v52, v54, v56, v58, v60, v62, v64, v66, v67, (slot l4 42), (slot l4 45), v68, v68] h)

/-- latchstring/latchstringkit.SameHeads -/
theorem rs_20 (a0 a1 : Value) (h : Heap) (κ : Value → Heap → Prop) : BodyW Tryz.prog 20 [a0, a1] h κ = (
 lenSli False a0 h fun v0 h =>
 lenSli False a1 h fun v1 h =>
 binB False Tryz.prog .neq 3 false false v0 v1 h fun v2 h =>
 CondW v2 (
 κ (Value.bool false) h) (
 LoopR [undef, undef, undef, undef, undef, undef, undef, undef, undef, undef, undef, undef, undef, undef, undef, undef, undef, undef, undef, undef, undef, undef, undef, undef, undef, undef, undef, undef, undef, undef, undef, undef, undef, undef, undef, undef, undef, undef, undef, undef, undef, undef, (Value.bool false), undef, undef, (Value.int .i64 (0))] h fun l4 h N3 =>
 lenSli False a0 h fun v5 h =>
 binB False Tryz.prog .lss 3 false false (slot l4 45) v5 h fun v6 h =>
 CondW v6 (
 rs_20_0 a0 l4 a1 N3 v5 v6 h κ) (
 κ (Value.bool true) h))) := by kernel_rfl

noncomputable def rs_21_0 (b7 : Nat) (l14 : List Value) (l10 : List Value) (N9 : List Value → Heap → Prop) (v11 : Value) (v12 : Value) (v18 : Value) (v19 : Value) (v20 : Value) (v22 : Value) (v24 : Value) (v26 : Value) (v28 : Value) (v30 : Value) (v32 : Value) (v34 : Value) (v36 : Value) (v38 : Value) (v40 : Value) (v41 : Value) (h : Heap) : Prop :=
 RdK (fieldAddrB none 2 (ptrTo b7) h fun v _ => some v) h fun v45 h =>
 RdK (load1 none v45 h fun v _ => some v) h fun v46 h =>
 RdK (some (slot l14 4)) h fun v47 h =>
 RdK (fieldAddrB none 2 (ptrTo b7) h fun v _ => some v) h fun v48 h =>
 RdK (load1 none v48 h fun v _ => some v) h fun v49 h =>
 RdK (some (slot l14 4)) h fun v50 h =>
 RdK (fieldAddrB none 2 (ptrTo b7) h fun v _ => some v) h fun v51 h =>
 RdK (load1 none v51 h fun v _ => some v) h fun v52 h =>
 RdK (some (slot l14 4)) h fun v53 h =>
 RdK (indexAddrS none 5 v52 v53 h fun v _ => some v) h fun v54 h =>
 RdK (fieldAddrB none 3 v54 h fun v _ => some v) h fun v55 h =>
 RdK (load1 none v55 h fun v _ => some v) h fun v56 h =>
 RdK (indexAddrS none 5 v46 v47 h fun v _ => some v) h fun v57 h =>
 RdK (fieldAddrB none 2 v57 h fun v _ => some v) h fun v58 h =>
 storeV False 1 v58 v56 h fun v59 h =>
 SameK ((reV (fieldAddrB none 2 (ptrTo b7) h fun v _ => some v) v48) && ((reV (load1 none v48 h fun v _ => some v) v49) && ((reV (some (slot l14 4)) v50) && true))) (RdK (indexAddrS none 5 v49 v50 h fun v _ => some v) h fun v60 h =>
 RdK (fieldAddrB none 4 v60 h fun v _ => some v) h fun v61 h =>
 storeV False 1 v61 (Value.int .i64 (0)) h fun v62 h =>
 fieldAddrB False 2 (ptrTo b7) h fun v63 h =>
 load1 False v63 h fun v64 h =>
 indexAddrS False 5 v64 (slot l14 4) h fun v65 h =>
 fieldAddrB False 0 v65 h fun v66 h =>
 load1 False v66 h fun v67 h =>
 fillB False [(0, 1)] [v67] (repeatL [(Value.int .i64 (0))] 1) fun cs70 => cellsK False cs70 3 false fun o68 => newBlock False o68 h fun b69 h =>
 appendB False 3 1 [(Value.int .i64 (0))] false (slot l10 49) (sliceTo 1 1 b69) h fun v71 h =>
 N9 [v11, v12, (slot l14 0), (slot l14 1), (slot l14 2), (slot l14 3), (slot l14 4), v18, v19, v20, v22, v24, v26, v28, v30, v32, v34, v36, v38, v40, v41, (slot l10 21), (slot l10 22), (slot l10 23), v45, v46, v47, v48, v49, v50, v51, v52, v53, v54, v55, v56, v57, v58, v60, v61, (slot l10 49), v63, v64, (slot l14 4), v65, v66, v67, (sliceTo 1 1 b69), v71, v71] h)

noncomputable def rs_21_1 (l14 : List Value) (b7 : Nat) (b3 : Nat) (l10 : List Value) (N9 : List Value → Heap → Prop) (v11 : Value) (v12 : Value) (h : Heap) (κ : Value → Heap → Prop) : Prop :=
 RdK (some (slot l14 4)) h fun v18 h =>
 RdK (binB none Tryz.prog .lss 3 true false v18 (Value.int .i64 (0)) h fun v _ => some v) h fun v19 h =>
 RdK (some v19) h fun v20 h =>
 GuardW (wantV v20 false) (fun K21 =>
 RdK (loadA none 4 (ptrTo b7) h fun v _ => some v) h K21) h fun v22 h =>
 GuardW (wantV v20 false) (fun K23 =>
 RdK (fieldAddrB none 2 (ptrTo b7) h fun v _ => some v) h K23) h fun v24 h =>
 GuardW (wantV v20 false) (fun K25 =>
 RdK (load1 none v24 h fun v _ => some v) h K25) h fun v26 h =>
 GuardW (wantV v20 false) (fun K27 =>
 RdK (some (slot l14 4)) h K27) h fun v28 h =>
 GuardW (wantV v20 false) (fun K29 =>
 RdK (indexAddrS none 5 v26 v28 h fun v _ => some v) h K29) h fun v30 h =>
 GuardW (wantV v20 false) (fun K31 =>
 RdK (fieldAddrB none 3 v30 h fun v _ => some v) h K31) h fun v32 h =>
 GuardW (wantV v20 false) (fun K33 =>
 RdK (load1 none v32 h fun v _ => some v) h K33) h fun v34 h =>
 GuardW (wantV v20 false) (fun K35 =>
 RdK (some (slot l14 4)) h K35) h fun v36 h =>
 GuardW (wantV v20 false) (fun K37 =>
 CallW Tryz.prog 65 [v22, v34, v36] h K37) h fun v38 h =>
 GuardW (wantV v20 false) (fun K39 =>
 RdK (unB none .not v38 h fun v _ => some v) h K39) h fun v40 h =>
 RdK (pickB none v20 (Value.bool true) v40 h fun v _ => some v) h fun v41 h =>
 CondW v41 (
 loadA False 4 (ptrTo b7) h fun v42 h =>
 storeV False 4 (ptrTo b3) v42 h fun v43 h =>
 loadA False 4 (ptrTo b3) h fun v44 _ => κ (Value.tuple (Array.mk [v44, (slot l10 49)])) h) (
 rs_21_0 b7 l14 l10 N9 v11 v12 v18 v19 v20 v22 v24 v26 v28 v30 v32 v34 v36 v38 v40 v41 h)

noncomputable def rs_21_2 (b7 : Nat) (l10 : List Value) (b3 : Nat) (N9 : List Value → Heap → Prop) (h : Heap) (κ : Value → Heap → Prop) : Prop :=
 loadA False 4 (ptrTo b7) h fun v11 h =>
 CallW Tryz.prog 63 [v11] h fun v12 h =>
 JoinR (fun N13 =>
 binB False Tryz.prog .lss 3 true false v12 (Value.int .i64 (0)) h fun v15 h =>
 CondW v15 (
 loadA False 4 (ptrTo b7) h fun v16 h =>
 CallW Tryz.prog 64 [v16] h fun v17 h =>
 N13 [v12, v15, v16, v17, v17] h) (
 N13 [v12, v15, (slot l10 4), (slot l10 5), v12] h)) fun l14 h =>
 rs_21_1 l14 b7 b3 l10 N9 v11 v12 h κ

/-- latchstring/latchstringref09.Scan -/
theorem rs_21 (a0 : Value) (h : Heap) (κ : Value → Heap → Prop) : BodyW Tryz.prog 21 [a0] h κ = (
 cellsK False (Value.cells a0).toList 51 false fun o0 => newBlock False o0 h fun b1 h =>
 cellsK False [(Value.int .i64 (0)), (Value.int .i64 (0)), (Value.slice none 0 0), (Value.int .i64 (0))] 51 false fun o2 => newBlock False o2 h fun b3 h =>
 loadA False 4 (ptrTo b1) h fun v4 h =>
 CallW Tryz.prog 62 [v4] h fun v5 h =>
 cellsK False [(Value.int .i64 (0)), (Value.int .i64 (0)), (Value.slice none 0 0), (Value.int .i64 (0))] 51 false fun o6 => newBlock False o6 h fun b7 h =>
 storeV False 4 (ptrTo b7) v5 h fun v8 h =>
 LoopR [undef, undef, undef, undef, undef, undef, undef, undef, undef, undef, undef, undef, undef, undef, undef, undef, undef, undef, undef, undef, undef, undef, undef, (Value.slice none 0 0), undef, undef, undef, undef, undef, undef, undef, undef, undef, undef, undef, undef, undef, undef, undef, undef, undef, undef, undef, undef, undef, undef, undef, undef, undef, (Value.slice none 0 0)] h fun l10 h N9 =>
 rs_21_2 b7 l10 b3 N9 h κ) := by kernel_rfl

noncomputable def rs_22_0 (b1 : Nat) (l31 : List Value) (b23 : Nat) (N30 : List Value → Heap → Prop) (l13 : List Value) (v32 : Value) (h : Heap) (κ : Value → Heap → Prop) : Prop :=
 fieldAddrB False 2 (ptrTo b1) h fun v33 h =>
 load1 False v33 h fun v34 h =>
 indexAddrS False 5 v34 (slot l31 67) h fun v35 h =>
 loadA False 5 v35 h fun v36 h =>
 cellsK False [(Value.int .i64 (0)), (Value.int .i64 (0)), (Value.int .i64 (0)), (Value.int .i64 (0)), (Value.int .i64 (0))] 54 false fun o37 => newBlock False o37 h fun b38 h =>
 storeV False 5 (ptrTo b38) v36 h fun v39 h =>
 fieldAddrB False 0 (ptrTo b38) h fun v40 h =>
 load1 False v40 h fun v41 h =>
 fieldAddrB False 0 (ptrTo b23) h fun v42 h =>
 load1 False v42 h fun v43 h =>
 binB False Tryz.prog .eql 3 false false v41 v43 h fun v44 h =>
 GuardW (wantV v44 false) (fun K45 =>
 fieldAddrB False 1 (ptrTo b38) h K45) h fun v46 h =>
 GuardW (wantV v44 false) (fun K47 =>
 load1 False v46 h K47) h fun v48 h =>
 GuardW (wantV v44 false) (fun K49 =>
 fieldAddrB False 1 (ptrTo b23) h K49) h fun v50 h =>
 GuardW (wantV v44 false) (fun K51 =>
 load1 False v50 h K51) h fun v52 h =>
 GuardW (wantV v44 false) (fun K53 =>
 binB False Tryz.prog .eql 3 false false v48 v52 h K53) h fun v54 h =>
 pickB False v44 (Value.bool true) v54 h fun v55 h =>
 GuardW (wantV v55 false) (fun K56 =>
 loadA False 5 (ptrTo b38) h K56) h fun v57 h =>
 GuardW (wantV v55 false) (fun K58 =>
 CallW Tryz.prog 67 [v57] h K58) h fun v59 h =>
 GuardW (wantV v55 false) (fun K60 =>
 K60 v59 h) h fun v61 h =>
 GuardW (wantV v61 true) (fun K62 =>
 fieldAddrB False 4 (ptrTo b38) h K62) h fun v63 h =>
 GuardW (wantV v61 true) (fun K64 =>
 load1 False v63 h K64) h fun v65 h =>
 GuardW (wantV v61 true) (fun K66 =>
 fieldAddrB False 4 (ptrTo b23) h K66) h fun v67 h =>
 GuardW (wantV v61 true) (fun K68 =>
 load1 False v67 h K68) h fun v69 h =>
 GuardW (wantV v61 true) (fun K70 =>
 binB False Tryz.prog .eql 3 false false v65 v69 h K70) h fun v71 h =>
 GuardW (wantV v55 false) (fun K72 =>
 pickB False v61 v71 (Value.bool false) h K72) h fun v73 h =>
 pickB False v55 (Value.bool true) v73 h fun v74 h =>
 GuardW (wantV v74 false) (fun K75 =>
 loadA False 5 (ptrTo b38) h K75) h fun v76 h =>
 GuardW (wantV v74 false) (fun K77 =>
 CallW Tryz.prog 68 [v76] h K77) h fun v78 h =>
 GuardW (wantV v74 false) (fun K79 =>
 unB False .not v78 h K79) h fun v80 h =>
 GuardW (wantV v74 false) (fun K81 =>
 K81 v80 h) h fun v82 h =>
 GuardW (wantV v82 true) (fun K83 =>
 loadA False 5 (ptrTo b23) h K83) h fun v84 h =>
 GuardW (wantV v82 true) (fun K85 =>
 CallW Tryz.prog 68 [v84] h K85) h fun v86 h =>
 GuardW (wantV v82 true) (fun K87 =>
 K87 v86 h) h fun v88 h =>
 GuardW (wantV v88 false) (fun K89 =>
 fieldAddrB False 4 (ptrTo b38) h K89) h fun v90 h =>
 GuardW (wantV v88 false) (fun K91 =>
 load1 False v90 h K91) h fun v92 h =>
 GuardW (wantV v88 false) (fun K93 =>
 fieldAddrB False 4 (ptrTo b23) h K93) h fun v94 h =>
 GuardW (wantV v88 false) (fun K95 =>
 load1 False v94 h K95) h fun v96 h =>
 GuardW (wantV v88 false) (fun K97 =>
 binB False Tryz.prog .gtr 3 false false v92 v96 h K97) h fun v98 h =>
 GuardW (wantV v82 true) (fun K99 =>
 pickB False v88 (Value.bool true) v98 h K99) h fun v100 h =>
 GuardW (wantV v74 false) (fun K101 =>
 pickB False v82 v100 (Value.bool false) h K101) h fun v102 h =>
 pickB False v74 (Value.bool true) v102 h fun v103 h =>
 GuardW (wantV v103 false) (fun K104 =>
 loadA False 5 (ptrTo b38) h K104) h fun v105 h =>
 GuardW (wantV v103 false) (fun K106 =>
 CallW Tryz.prog 68 [v105] h K106) h fun v107 h =>
 GuardW (wantV v103 false) (fun K108 =>
 K108 v107 h) h fun v109 h =>
 GuardW (wantV v109 true) (fun K110 =>
 loadA False 5 (ptrTo b23) h K110) h fun v111 h =>
 GuardW (wantV v109 true) (fun K112 =>
 CallW Tryz.prog 68 [v111] h K112) h fun v113 h =>
 GuardW (wantV v103 false) (fun K114 =>
 pickB False v109 v113 (Value.bool false) h K114) h fun v115 h =>
 GuardW (wantV v103 false) (fun K116 =>
 K116 v115 h) h fun v117 h =>
 GuardW (wantV v117 true) (fun K118 =>
 fieldAddrB False 2 (ptrTo b38) h K118) h fun v119 h =>
 GuardW (wantV v117 true) (fun K120 =>
 load1 False v119 h K120) h fun v121 h =>
 GuardW (wantV v117 true) (fun K122 =>
 fieldAddrB False 2 (ptrTo b23) h K122) h fun v123 h =>
 GuardW (wantV v117 true) (fun K124 =>
 load1 False v123 h K124) h fun v125 h =>
 GuardW (wantV v117 true) (fun K126 =>
 CallW Tryz.prog 24 [v121, v125] h K126) h fun v127 h =>
 GuardW (wantV v117 true) (fun K128 =>
 unB False .not v127 h K128) h fun v129 h =>
 GuardW (wantV v103 false) (fun K130 =>
 pickB False v117 v129 (Value.bool false) h K130) h fun v131 h =>
 pickB False v103 (Value.bool true) v131 h fun v132 h =>
 CondW v132 (
 κ (Value.int .i64 (2)) h) (
 binB False Tryz.prog .add 3 true false (slot l31 67) (Value.int .i64 (1)) h fun v133 h =>
 N30 [(slot l31 67), (slot l13 86), v32, v33, v34, (slot l31 67), v35, v36, (ptrTo b38), v40, v41, v42, v43, v44, v44, v46, v48, v50, v52, v54, v55, v55, v57, v59, v61, v63, v65, v67, v69, v71, v73, v74, v74, v76, v78, v80, v82, v84, v86, v88, v90, v92, v94, v96, v98, v100, v102, v103, v103, v105, v107, v109, v111, v113, v115, v117, v119, v121, v123, v125, v127, v129, v131, v132, (slot l31 64), (slot l31 67), v133, v133] h)

noncomputable def rs_22_1 (b1 : Nat) (l13 : List Value) (N12 : List Value → Heap → Prop) (v14 : Value) (v15 : Value) (v16 : Value) (v17 : Value) (h : Heap) (κ : Value → Heap → Prop) : Prop :=
 fieldAddrB False 2 (ptrTo b1) h fun v18 h =>
 load1 False v18 h fun v19 h =>
 indexAddrS False 5 v19 (slot l13 86) h fun v20 h =>
 loadA False 5 v20 h fun v21 h =>
 cellsK False [(Value.int .i64 (0)), (Value.int .i64 (0)), (Value.int .i64 (0)), (Value.int .i64 (0)), (Value.int .i64 (0))] 54 false fun o22 => newBlock False o22 h fun b23 h =>
 storeV False 5 (ptrTo b23) v21 h fun v24 h =>
 loadA False 5 (ptrTo b23) h fun v25 h =>
 fieldAddrB False 3 (ptrTo b1) h fun v26 h =>
 load1 False v26 h fun v27 h =>
 CallW Tryz.prog 66 [v25, v27] h fun v28 h =>
 unB False .not v28 h fun v29 h =>
 CondW v29 (
 κ (Value.int .i64 (2)) h) (
 LoopR [(slot l13 16), (slot l13 17), (slot l13 18), (slot l13 19), (slot l13 20), (slot l13 21), (slot l13 22), (slot l13 23), (slot l13 24), (slot l13 25), (slot l13 26), (slot l13 27), (slot l13 28), (slot l13 29), (slot l13 30), (slot l13 31), (slot l13 32), (slot l13 33), (slot l13 34), (slot l13 35), (slot l13 36), (slot l13 37), (slot l13 38), (slot l13 39), (slot l13 40), (slot l13 41), (slot l13 42), (slot l13 43), (slot l13 44), (slot l13 45), (slot l13 46), (slot l13 47), (slot l13 48), (slot l13 49), (slot l13 50), (slot l13 51), (slot l13 52), (slot l13 53), (slot l13 54), (slot l13 55), (slot l13 56), (slot l13 57), (slot l13 58), (slot l13 59), (slot l13 60), (slot l13 61), (slot l13 62), (slot l13 63), (slot l13 64), (slot l13 65), (slot l13 66), (slot l13 67), (slot l13 68), (slot l13 69), (slot l13 70), (slot l13 71), (slot l13 72), (slot l13 73), (slot l13 74), (slot l13 75), (slot l13 76), (slot l13 77), (slot l13 78), (slot l13 79), (slot l13 80), (slot l13 81), (slot l13 82), (Value.int .i64 (0))] h fun l31 h N30 =>
 binB False Tryz.prog .lss 3 false false (slot l31 67) (slot l13 86) h fun v32 h =>
 CondW v32 (
 rs_22_0 b1 l31 b23 N30 l13 v32 h κ) (
 binB False Tryz.prog .add 3 true false (slot l13 86) (Value.int .i64 (1)) h fun v134 h =>
 N12 [(slot l13 86), v14, v15, v16, v17, v18, v19, (slot l13 86), v20, v21, (ptrTo b23), v25, v26, v27, v28, v29, (slot l31 67), (slot l13 86), v32, (slot l31 3), (slot l31 4), (slot l31 5), (slot l31 6), (slot l31 7), (slot l31 8), (slot l31 9), (slot l31 10), (slot l31 11), (slot l31 12), (slot l31 13), (slot l31 14), (slot l31 15), (slot l31 16), (slot l31 17), (slot l31 18), (slot l31 19), (slot l31 20), (slot l31 21), (slot l31 22), (slot l31 23), (slot l31 24), (slot l31 25), (slot l31 26), (slot l31 27), (slot l31 28), (slot l31 29), (slot l31 30), (slot l31 31), (slot l31 32), (slot l31 33), (slot l31 34), (slot l31 35), (slot l31 36), (slot l31 37), (slot l31 38), (slot l31 39), (slot l31 40), (slot l31 41), (slot l31 42), (slot l31 43), (slot l31 44), (slot l31 45), (slot l31 46), (slot l31 47), (slot l31 48), (slot l31 49), (slot l31 50), (slot l31 51), (slot l31 52), (slot l31 53), (slot l31 54), (slot l31 55), (slot l31 56), (slot l31 57), (slot l31 58), (slot l31 59), (slot l31 60), (slot l31 61), (slot l31 62), (slot l31 63), (slot l31 64), (slot l31 65), (slot l31 66), (slot l31 67), (slot l13 86), v134, v134] h))

noncomputable def rs_22_2 (b1 : Nat) (l13 : List Value) (N12 : List Value → Heap → Prop) (h : Heap) (κ : Value → Heap → Prop) : Prop :=
 fieldAddrB False 2 (ptrTo b1) h fun v14 h =>
 load1 False v14 h fun v15 h =>
 lenSli False v15 h fun v16 h =>
 binB False Tryz.prog .lss 3 false false (slot l13 86) v16 h fun v17 h =>
 CondW v17 (
 rs_22_1 b1 l13 N12 v14 v15 v16 v17 h κ) (
 κ (Value.int .i64 (0)) h)

/-- latchstring/latchstringref09.Check -/
theorem rs_22 (a0 : Value) (h : Heap) (κ : Value → Heap → Prop) : BodyW Tryz.prog 22 [a0] h κ = (
 cellsK False (Value.cells a0).toList 51 false fun o0 => newBlock False o0 h fun b1 h =>
 fieldAddrB False 3 (ptrTo b1) h fun v2 h =>
 load1 False v2 h fun v3 h =>
 binB False Tryz.prog .lss 3 true false v3 (Value.int .i64 (0)) h fun v4 h =>
 GuardW (wantV v4 false) (fun K5 =>
 fieldAddrB False 3 (ptrTo b1) h K5) h fun v6 h =>
 GuardW (wantV v4 false) (fun K7 =>
 load1 False v6 h K7) h fun v8 h =>
 GuardW (wantV v4 false) (fun K9 =>
 binB False Tryz.prog .gtr 3 true false v8 (Value.int .i64 (4611686018427387904)) h K9) h fun v10 h =>
 pickB False v4 (Value.bool true) v10 h fun v11 h =>
 CondW v11 (
 κ (Value.int .i64 (2)) h) (
 LoopR [undef, undef, undef, undef, undef, undef, undef, undef, undef, undef, undef, undef, undef, undef, undef, undef, undef, undef, undef, undef, undef, undef, undef, undef, undef, undef, undef, undef, undef, undef, undef, undef, undef, undef, undef, undef, undef, undef, undef, undef, undef, undef, undef, undef, undef, undef, undef, undef, undef, undef, undef, undef, undef, undef, undef, undef, undef, undef, undef, undef, undef, undef, undef, undef, undef, undef, undef, undef, undef, undef, undef, undef, undef, undef, undef, undef, undef, undef, undef, undef, (Value.int .i64 (0)), undef, undef, undef, undef, undef, (Value.int .i64 (0))] h fun l13 h N12 =>
 rs_22_2 b1 l13 N12 h κ)) := by kernel_rfl

/-- latchstring/latchstringref02.Compare -/
theorem rs_23 (a0 a1 : Value) (h : Heap) (κ : Value → Heap → Prop) : BodyW Tryz.prog 23 [a0, a1] h κ = (
 cellsK False (Value.cells a0).toList 24 false fun o0 => newBlock False o0 h fun b1 h =>
 cellsK False (Value.cells a1).toList 24 false fun o2 => newBlock False o2 h fun b3 h =>
 fieldAddrB False 0 (ptrTo b1) h fun v4 h =>
 load1 False v4 h fun v5 h =>
 fieldAddrB False 0 (ptrTo b3) h fun v6 h =>
 load1 False v6 h fun v7 h =>
 binB False Tryz.prog .lss 3 false false v5 v7 h fun v8 h =>
 GuardW (wantV v8 false) (fun K9 =>
 fieldAddrB False 0 (ptrTo b1) h K9) h fun v10 h =>
 GuardW (wantV v8 false) (fun K11 =>
 load1 False v10 h K11) h fun v12 h =>
 GuardW (wantV v8 false) (fun K13 =>
 fieldAddrB False 0 (ptrTo b3) h K13) h fun v14 h =>
 GuardW (wantV v8 false) (fun K15 =>
 load1 False v14 h K15) h fun v16 h =>
 GuardW (wantV v8 false) (fun K17 =>
 binB False Tryz.prog .eql 3 false false v12 v16 h K17) h fun v18 h =>
 GuardW (wantV v8 false) (fun K19 =>
 K19 v18 h) h fun v20 h =>
 GuardW (wantV v20 true) (fun K21 =>
 fieldAddrB False 1 (ptrTo b1) h K21) h fun v22 h =>
 GuardW (wantV v20 true) (fun K23 =>
 load1 False v22 h K23) h fun v24 h =>
 GuardW (wantV v20 true) (fun K25 =>
 fieldAddrB False 1 (ptrTo b3) h K25) h fun v26 h =>
 GuardW (wantV v20 true) (fun K27 =>
 load1 False v26 h K27) h fun v28 h =>
 GuardW (wantV v20 true) (fun K29 =>
 binB False Tryz.prog .lss 3 false false v24 v28 h K29) h fun v30 h =>
 GuardW (wantV v8 false) (fun K31 =>
 pickB False v20 v30 (Value.bool false) h K31) h fun v32 h =>
 pickB False v8 (Value.bool true) v32 h fun v33 h =>
 CondW v33 (
 κ (Value.int .i64 (-1)) h) (
 loadA False 2 (ptrTo b1) h fun v34 h =>
 loadA False 2 (ptrTo b3) h fun v35 h =>
 binB False Tryz.prog .eql 24 false false v34 v35 h fun v36 h =>
 CondW v36 (
 κ (Value.int .i64 (0)) h) (
 κ (Value.int .i64 (1)) h))) := by kernel_rfl

noncomputable def rs_25_0 (l6 : List Value) (v4 : Value) (v3 : Value) (N5 : List Value → Heap → Prop) (a0 : Value) (h : Heap) (κ : Value → Heap → Prop) : Prop :=
 binB False Tryz.prog .lss 3 false false (slot l6 10) v4 h fun v7 h =>
 CondW v7 (
 indexAddrS False 1 v3 (slot l6 10) h fun v8 h =>
 load1 False v8 h fun v9 h =>
 CallW Tryz.prog 71 [v9] h fun v10 h =>
 binB False Tryz.prog .add 3 false false (slot l6 8) v10 h fun v11 h =>
 binB False Tryz.prog .add 3 true false (slot l6 10) (Value.int .i64 (1)) h fun v12 h =>
 N5 [v7, v8, v9, v9, (slot l6 8), v9, v10, v11, v11, v12, v12] h) (
 nilB False a0 h fun v13 h =>
 fieldAddrB False 4 v13 h fun v14 h =>
 load1 False v14 h fun v15 h =>
 CallW Tryz.prog 72 [v15] h fun v16 h =>
 κ (Value.tuple (Array.mk [(slot l6 8), v16])) h)

/-- (*latchstring/table.Table).Counts -/
theorem rs_25 (a0 : Value) (h : Heap) (κ : Value → Heap → Prop) : BodyW Tryz.prog 25 [a0] h κ = (
 binB False Tryz.prog .eql 30 true false a0 (Value.pointer none) h fun v0 h =>
 CondW v0 (
 κ (Value.tuple (Array.mk [(Value.int .i64 (0)), (Value.int .i64 (0))])) h) (
 nilB False a0 h fun v1 h =>
 fieldAddrB False 5 v1 h fun v2 h =>
 load1 False v2 h fun v3 h =>
 lenSli False v3 h fun v4 h =>
 LoopR [undef, undef, undef, undef, undef, undef, undef, undef, (Value.int .i64 (0)), undef, (Value.int .i64 (0))] h fun l6 h N5 =>
 rs_25_0 l6 v4 v3 N5 a0 h κ)) := by kernel_rfl

noncomputable def rs_26_0 (a0 : Value) (a1 : Value) (h : Heap) (κ : Value → Heap → Prop) : Prop :=
 binB False Tryz.prog .rem 3 false false a0 a1 h fun v1 h =>
 JoinR (fun N2 =>
 binB False Tryz.prog .lss 3 true false v1 (Value.int .i64 (0)) h fun v4 h =>
 CondW v4 (
 binB False Tryz.prog .add 3 false false v1 a1 h fun v5 h =>
 N2 [v1, v4, v1, a1, v5, v5] h) (
 N2 [v1, v4, undef, undef, undef, v1] h)) fun l3 h =>
 κ (slot l3 5) h

/-- latchstring/latchstringkit.Pick -/
theorem rs_26 (a0 a1 : Value) (h : Heap) (κ : Value → Heap → Prop) : BodyW Tryz.prog 26 [a0, a1] h κ = (
 binB False Tryz.prog .lss 3 true false a1 (Value.int .i64 (1)) h fun v0 h =>
 CondW v0 (
 κ (Value.int .i64 (0)) h) (
 rs_26_0 a0 a1 h κ)) := by kernel_rfl

/-- (*latchstring/table.Table).Get -/
theorem rs_27 (a0 a1 : Value) (h : Heap) (κ : Value → Heap → Prop) : BodyW Tryz.prog 27 [a0, a1] h κ = (
 cellsK False [(Value.int .i64 (0)), (Value.int .i64 (0))] 24 false fun o0 => newBlock False o0 h fun b1 h =>
 cellsK False [(Value.int .i64 (0)), (Value.int .i64 (0)), (Value.int .i64 (0)), (Value.int .i64 (0)), (Value.int .i64 (0))] 54 false fun o2 => newBlock False o2 h fun b3 h =>
 CallW Tryz.prog 59 [a0, a1] h fun v4 h =>
 CallW Tryz.prog 73 [v4, a1] h fun v5 h =>
 extractB False 0 v5 h fun v6 h =>
 extractB False 1 v5 h fun v7 h =>
 extractB False 2 v5 h fun v8 h =>
 storeV False 2 (ptrTo b1) v6 h fun v9 h =>
 storeV False 5 (ptrTo b3) v7 h fun v10 h =>
 loadA False 2 (ptrTo b1) h fun v11 _ => loadA False 5 (ptrTo b3) h fun v12 _ => κ (Value.tuple (Array.mk [v11, v12, v8])) h) := by kernel_rfl

noncomputable def rs_43_0 (b1 : Nat) (h : Heap) (κ : Value → Heap → Prop) : Prop :=
 fieldAddrB False 0 (ptrTo b1) h fun v5 h =>
 load1 False v5 h fun v6 h =>
 binB False Tryz.prog .lss 3 true false v6 (Value.int .i64 (0)) h fun v7 h =>
 GuardW (wantV v7 false) (fun K8 =>
 fieldAddrB False 0 (ptrTo b1) h K8) h fun v9 h =>
 GuardW (wantV v7 false) (fun K10 =>
 load1 False v9 h K10) h fun v11 h =>
 GuardW (wantV v7 false) (fun K12 =>
 binB False Tryz.prog .geq 3 true false v11 (Value.int .i64 (100)) h K12) h fun v13 h =>
 pickB False v7 (Value.bool true) v13 h fun v14 h =>
 GuardW (wantV v14 false) (fun K15 =>
 fieldAddrB False 1 (ptrTo b1) h K15) h fun v16 h =>
 GuardW (wantV v14 false) (fun K17 =>
 load1 False v16 h K17) h fun v18 h =>
 GuardW (wantV v14 false) (fun K19 =>
 binB False Tryz.prog .lss 3 true false v18 (Value.int .i64 (-1)) h K19) h fun v20 h =>
 pickB False v14 (Value.bool true) v20 h fun v21 h =>
 GuardW (wantV v21 false) (fun K22 =>
 fieldAddrB False 1 (ptrTo b1) h K22) h fun v23 h =>
 GuardW (wantV v21 false) (fun K24 =>
 load1 False v23 h K24) h fun v25 h =>
 GuardW (wantV v21 false) (fun K26 =>
 binB False Tryz.prog .geq 3 true false v25 (Value.int .i64 (100)) h K26) h fun v27 h =>
 pickB False v21 (Value.bool true) v27 h fun v28 h =>
 CondW v28 (
 κ (Value.int .i64 (-1)) h) (
 fieldAddrB False 1 (ptrTo b1) h fun v29 h =>
 load1 False v29 h fun v30 h =>
 binB False Tryz.prog .eql 3 true false v30 (Value.int .i64 (-1)) h fun v31 h =>
 CondW v31 (
 κ (Value.int .i64 (1)) h) (
 κ (Value.int .i64 (2)) h))

/-- latchstring/latchstringref02.Level -/
theorem rs_43 (a0 : Value) (h : Heap) (κ : Value → Heap → Prop) : BodyW Tryz.prog 43 [a0] h κ = (
 cellsK False (Value.cells a0).toList 24 false fun o0 => newBlock False o0 h fun b1 h =>
 RdK (loadA none 2 (ptrTo b1) h fun v _ => some v) h fun v2 h =>
 CallW Tryz.prog 94 [] h fun v3 h =>
 SameK ((reV (loadA none 2 (ptrTo b1) h fun v _ => some v) v2) && true) (RdK (binB none Tryz.prog .eql 24 false false v2 v3 h fun v _ => some v) h fun v4 h =>
 CondW v4 (
 κ (Value.int .i64 (0)) h) (
 rs_43_0 b1 h κ))) := by kernel_rfl

noncomputable def rs_44_0 (l13 : List Value) (a0 : Value) (b11 : Nat) (N12 : List Value → Heap → Prop) (h : Heap) (κ : Value → Heap → Prop) : Prop :=
 binB False Tryz.prog .lss 3 false false (slot l13 11) a0 h fun v14 h =>
 CondW v14 (
 nilB False (ptrTo b11) h fun v15 h =>
 fieldAddrB False 0 v15 h fun v16 h =>
 CallW Tryz.prog 95 [(Value.iface 134 v16), (Value.iface 3 (slot l13 11))] h fun v17 h =>
 binB False Tryz.prog .add 3 true false (slot l13 11) (Value.int .i64 (1)) h fun v18 h =>
 N12 [v14, (slot l13 11), (slot l13 11), (ptrTo b11), v15, v16, (Value.iface 134 v16), (slot l13 11), (Value.iface 3 (slot l13 11)), v17, v18, v18] h) (
 κ (Value.tuple (Array.mk [(ptrTo b11), (Value.int .i64 (0))])) h)

/-- latchstring/pool.New -/
theorem rs_44 (a0 : Value) (h : Heap) (κ : Value → Heap → Prop) : BodyW Tryz.prog 44 [a0] h κ = (
 binB False Tryz.prog .lss 3 true false a0 (Value.int .i64 (0)) h fun v0 h =>
 GuardW (wantV v0 false) (fun K1 =>
 K1 a0 h) h fun v2 h =>
 GuardW (wantV v0 false) (fun K3 =>
 binB False Tryz.prog .gtr 3 true false v2 (Value.int .i64 (128)) h K3) h fun v4 h =>
 pickB False v0 (Value.bool true) v4 h fun v5 h =>
 CondW v5 (
 κ (Value.tuple (Array.mk [(Value.pointer none), (Value.int .i64 (2))])) h) (
 mkSl False a0 a0 [(Value.bool false)] 4 h fun v8 h =>
 fillB False [(1, 1)] [v8] [(Value.slice none 0 0), (Value.slice none 0 0)] fun cs9 =>
 cellsK False (Value.cells (Value.agg (Array.mk cs9))).toList 132 false fun o10 => newBlock False o10 h fun b11 h =>
 LoopR [undef, undef, undef, undef, undef, undef, undef, undef, undef, undef, undef, (Value.int .i64 (0))] h fun l13 h N12 =>
 rs_44_0 l13 a0 b11 N12 h κ)) := by kernel_rfl

/-- latchstring/bucket.New -/
theorem rs_45 (a0 a1 : Value) (h : Heap) (κ : Value → Heap → Prop) : BodyW Tryz.prog 45 [a0, a1] h κ = (
 binB False Tryz.prog .lss 3 true false a0 (Value.int .i64 (1)) h fun v0 h =>
 GuardW (wantV v0 false) (fun K1 =>
 K1 a0 h) h fun v2 h =>
 GuardW (wantV v0 false) (fun K3 =>
 binB False Tryz.prog .gtr 3 true false v2 (Value.int .i64 (64)) h K3) h fun v4 h =>
 pickB False v0 (Value.bool true) v4 h fun v5 h =>
 GuardW (wantV v5 false) (fun K6 =>
 K6 a1 h) h fun v7 h =>
 GuardW (wantV v5 false) (fun K8 =>
 binB False Tryz.prog .eql 82 true false v7 (Value.pointer none) h K8) h fun v9 h =>
 pickB False v5 (Value.bool true) v9 h fun v10 h =>
 CondW v10 (
 κ (Value.tuple (Array.mk [(Value.pointer none), (Value.int .i64 (2))])) h) (
 newBlock False (.map [] 0) h fun b12 h =>
 fillB False [(0, 1), (1, 1), (2, 1)] [a0, a1, (mapTo b12)] [(Value.int .i64 (0)), (Value.pointer none), (Value.map none)] fun cs13 =>
 cellsK False (Value.cells (Value.agg (Array.mk cs13))).toList 137 false fun o14 => newBlock False o14 h fun b15 h =>
 κ (Value.tuple (Array.mk [(ptrTo b15), (Value.int .i64 (0))])) h)) := by kernel_rfl

noncomputable def rs_46_0 (a0 : Value) (b1 : Nat) (N24 : List Value → Heap → Prop) (v23 : Value) (v26 : Value) (h : Heap) (κ : Value → Heap → Prop) : Prop :=
 RdK (some a0) h fun v27 h =>
 RdK (nilB none v27 h fun v _ => some v) h fun v28 h =>
 RdK (fieldAddrB none 2 v28 h fun v _ => some v) h fun v29 h =>
 RdK (load1 none v29 h fun v _ => some v) h fun v30 h =>
 RdK (lenMap none v30 h fun v _ => some v) h fun v31 h =>
 RdK (some a0) h fun v32 h =>
 RdK (nilB none v32 h fun v _ => some v) h fun v33 h =>
 RdK (fieldAddrB none 0 v33 h fun v _ => some v) h fun v34 h =>
 RdK (load1 none v34 h fun v _ => some v) h fun v35 h =>
 RdK (binB none Tryz.prog .geq 3 false false v31 v35 h fun v _ => some v) h fun v36 h =>
 CondW v36 (
 κ (Value.tuple (Array.mk [(Value.int .i64 (0)), (Value.bool false), (Value.int .i64 (8))])) h) (
 loadA False 2 (ptrTo b1) h fun v37 h =>
 fillB False [(0, 2)] [v37] [(Value.int .i64 (0)), (Value.int .i64 (0)), (Value.slice none 0 0), (Value.int .i64 (0))] fun cs38 =>
 cellsK False (Value.cells (Value.agg (Array.mk cs38))).toList 51 false fun o39 => newBlock False o39 h fun b40 h =>
 N24 [v23, v26, v27, v28, v29, v30, v31, v32, v33, v34, v35, v36, (Value.int .i64 (0)), (Value.bool false), (Value.int .i64 (0)), v37, (Value.agg (Array.mk cs38)), (ptrTo b40), (ptrTo b40)] h)

noncomputable def rs_46_1 (l25 : List Value) (v45 : Value) (a2 : Value) (a3 : Value) (a0 : Value) (h : Heap) (κ : Value → Heap → Prop) : Prop :=
 nilB False (slot l25 18) h fun v48 h =>
 loadA False 4 v48 h fun v49 h =>
 CallW Tryz.prog 98 [v49, v45, a2, a3] h fun v50 h =>
 extractB False 0 v50 h fun v51 h =>
 extractB False 1 v50 h fun v52 h =>
 extractB False 2 v50 h fun v53 h =>
 cellsK False [(Value.int .i64 (0)), (Value.int .i64 (0)), (Value.slice none 0 0), (Value.int .i64 (0))] 51 false fun o54 => newBlock False o54 h fun b55 h =>
 storeV False 4 (ptrTo b55) v51 h fun v56 h =>
 loadA False 4 (ptrTo b55) h fun v57 h =>
 CallW Tryz.prog 99 [a0, v57] h fun v58 h =>
 κ (Value.tuple (Array.mk [v45, v52, (Value.int .i64 (0))])) h

noncomputable def rs_46_2 (a0 : Value) (l25 : List Value) (a2 : Value) (a3 : Value) (h : Heap) (κ : Value → Heap → Prop) : Prop :=
 nilB False a0 h fun v41 h =>
 fieldAddrB False 1 v41 h fun v42 h =>
 load1 False v42 h fun v43 h =>
 CallW Tryz.prog 97 [v43] h fun v44 h =>
 extractB False 0 v44 h fun v45 h =>
 extractB False 1 v44 h fun v46 h =>
 binB False Tryz.prog .neq 26 true false v46 (Value.int .i64 (0)) h fun v47 h =>
 CondW v47 (
 κ (Value.tuple (Array.mk [(Value.int .i64 (0)), (Value.bool false), (Value.int .i64 (8))])) h) (
 rs_46_1 l25 v45 a2 a3 a0 h κ)

noncomputable def rs_46_3 (a0 : Value) (b1 : Nat) (a2 : Value) (a3 : Value) (h : Heap) (κ : Value → Heap → Prop) : Prop :=
 RdK (some a0) h fun v15 h =>
 RdK (nilB none v15 h fun v _ => some v) h fun v16 h =>
 RdK (fieldAddrB none 2 v16 h fun v _ => some v) h fun v17 h =>
 RdK (load1 none v17 h fun v _ => some v) h fun v18 h =>
 RdK (loadA none 2 (ptrTo b1) h fun v _ => some v) h fun v19 h =>
 RdK (lookupB none Tryz.prog 24 (Value.pointer none) true v18 v19 h fun v _ => some v) h fun v20 h =>
 RdK (some v20) h fun v21 h =>
 RdK (extractB none 0 v21 h fun v _ => some v) h fun v22 h =>
 RdK (extractB none 1 v21 h fun v _ => some v) h fun v23 h =>
 SameK ((reV (extractB none 1 v21 h fun v _ => some v) v23) && true) (JoinR (fun N24 =>
 unB False .not v23 h fun v26 h =>
 CondW v26 (
 rs_46_0 a0 b1 N24 v23 v26 h κ) (
 N24 [v23, v26, undef, undef, undef, undef, undef, undef, undef, undef, undef, undef, (Value.int .i64 (0)), (Value.bool false), (Value.int .i64 (0)), undef, undef, undef, v22] h)) fun l25 h =>
 rs_46_2 a0 l25 a2 a3 h κ)

noncomputable def rs_46_4 (b1 : Nat) (a0 : Value) (a2 : Value) (a3 : Value) (h : Heap) (κ : Value → Heap → Prop) : Prop :=
 loadA False 2 (ptrTo b1) h fun v11 h =>
 CallW Tryz.prog 90 [a0, v11, a2] h fun v12 h =>
 extractB False 0 v12 h fun v13 h =>
 extractB False 1 v12 h fun v14 h =>
 CondW v14 (
 κ (Value.tuple (Array.mk [(Value.int .i64 (0)), (Value.bool false), (Value.int .i64 (4))])) h) (
 rs_46_3 a0 b1 a2 a3 h κ)

noncomputable def rs_46_5 (a3 : Value) (b1 : Nat) (a0 : Value) (a2 : Value) (h : Heap) (κ : Value → Heap → Prop) : Prop :=
 binB False Tryz.prog .eql 33 true false a3 (Value.int .i64 (0)) h fun v3 h =>
 GuardW (wantV v3 false) (fun K4 =>
 K4 a3 h) h fun v5 h =>
 GuardW (wantV v3 false) (fun K6 =>
 CallW Tryz.prog 96 [v5] h K6) h fun v7 h =>
 GuardW (wantV v3 false) (fun K8 =>
 unB False .not v7 h K8) h fun v9 h =>
 pickB False v3 (Value.bool true) v9 h fun v10 h =>
 CondW v10 (
 κ (Value.tuple (Array.mk [(Value.int .i64 (0)), (Value.bool false), (Value.int .i64 (2))])) h) (
 rs_46_4 b1 a0 a2 a3 h κ)

/-- (*latchstring/bucket.Bucket).Ask -/
theorem rs_46 (a0 a1 a2 a3 : Value) (h : Heap) (κ : Value → Heap → Prop) : BodyW Tryz.prog 46 [a0, a1, a2, a3] h κ = (
 cellsK False (Value.cells a1).toList 24 false fun o0 => newBlock False o0 h fun b1 h =>
 binB False Tryz.prog .eql 89 true false a0 (Value.pointer none) h fun v2 h =>
 CondW v2 (
 κ (Value.tuple (Array.mk [(Value.int .i64 (0)), (Value.bool false), (Value.int .i64 (1))])) h) (
 rs_46_5 a3 b1 a0 a2 h κ)) := by kernel_rfl

/-- latchstring/stripe.Of -/
theorem rs_47 (a0 a1 : Value) (h : Heap) (κ : Value → Heap → Prop) : BodyW Tryz.prog 47 [a0, a1] h κ = (
 cellsK False (Value.cells a0).toList 24 false fun o0 => newBlock False o0 h fun b1 h =>
 CallW Tryz.prog 100 [a1] h fun v2 h =>
 unB False .not v2 h fun v3 h =>
 GuardW (wantV v3 false) (fun K4 =>
 loadA False 2 (ptrTo b1) h K4) h fun v5 h =>
 GuardW (wantV v3 false) (fun K6 =>
 CallW Tryz.prog 101 [v5] h K6) h fun v7 h =>
 GuardW (wantV v3 false) (fun K8 =>
 binB False Tryz.prog .neq 26 true false v7 (Value.int .i64 (0)) h K8) h fun v9 h =>
 pickB False v3 (Value.bool true) v9 h fun v10 h =>
 CondW v10 (
 κ (Value.int .i64 (-1)) h) (
 loadA False 2 (ptrTo b1) h fun v11 h =>
 CallW Tryz.prog 102 [v11] h fun v12 h =>
 convI False .u32 a1 h fun v13 h =>
 binB False Tryz.prog .rem 146 false false v12 v13 h fun v14 h =>
 convI False .i64 v14 h fun v15 h =>
 κ v15 h)) := by kernel_rfl

noncomputable def rs_48_0 (v0 : Value) (a0 : Value) (a1 : Value) (a2 : Value) (h : Heap) (κ : Value → Heap → Prop) : Prop :=
 binB False Tryz.prog .eql 89 true false v0 (Value.pointer none) h fun v17 h =>
 CondW v17 (
 CallW Tryz.prog 60 [a0] h fun v18 h =>
 κ (Value.tuple (Array.mk [(Value.bool false), v18])) h) (
 CallW Tryz.prog 103 [v0, a1, a2] h fun v19 h =>
 extractB False 0 v19 h fun v20 h =>
 extractB False 1 v19 h fun v21 h =>
 κ (Value.tuple (Array.mk [v20, v21])) h)

/-- (*latchstring/table.Table).Upgrade -/
theorem rs_48 (a0 a1 a2 : Value) (h : Heap) (κ : Value → Heap → Prop) : BodyW Tryz.prog 48 [a0, a1, a2] h κ = (
 CallW Tryz.prog 59 [a0, a1] h fun v0 h =>
 binB False Tryz.prog .neq 30 true false a0 (Value.pointer none) h fun v1 h =>
 GuardW (wantV v1 true) (fun K2 =>
 K2 a2 h) h fun v3 h =>
 GuardW (wantV v1 true) (fun K4 =>
 binB False Tryz.prog .eql 33 true false v3 (Value.int .i64 (0)) h K4) h fun v5 h =>
 GuardW (wantV v1 true) (fun K6 =>
 K6 v5 h) h fun v7 h =>
 GuardW (wantV v7 false) (fun K8 =>
 K8 a2 h) h fun v9 h =>
 GuardW (wantV v7 false) (fun K10 =>
 CallW Tryz.prog 96 [v9] h K10) h fun v11 h =>
 GuardW (wantV v7 false) (fun K12 =>
 unB False .not v11 h K12) h fun v13 h =>
 GuardW (wantV v1 true) (fun K14 =>
 pickB False v7 (Value.bool true) v13 h K14) h fun v15 h =>
 pickB False v1 v15 (Value.bool false) h fun v16 h =>
 CondW v16 (
 κ (Value.tuple (Array.mk [(Value.bool false), (Value.int .i64 (2))])) h) (
 rs_48_0 v0 a0 a1 a2 h κ)) := by kernel_rfl

/-- (*latchstring/table.Table).Abandon -/
theorem rs_49 (a0 a1 : Value) (h : Heap) (κ : Value → Heap → Prop) : BodyW Tryz.prog 49 [a0, a1] h κ = (
 CallW Tryz.prog 59 [a0, a1] h fun v0 h =>
 binB False Tryz.prog .eql 89 true false v0 (Value.pointer none) h fun v1 h =>
 CondW v1 (
 CallW Tryz.prog 60 [a0] h fun v2 h =>
 κ (Value.tuple (Array.mk [(Value.slice none 0 0), v2])) h) (
 CallW Tryz.prog 104 [v0, a1] h fun v3 h =>
 extractB False 0 v3 h fun v4 h =>
 extractB False 1 v3 h fun v5 h =>
 κ (Value.tuple (Array.mk [v4, v5])) h)) := by kernel_rfl

/-- (*latchstring/table.Table).Hand -/
theorem rs_50 (a0 a1 a2 : Value) (h : Heap) (κ : Value → Heap → Prop) : BodyW Tryz.prog 50 [a0, a1, a2] h κ = (
 CallW Tryz.prog 59 [a0, a1] h fun v0 h =>
 binB False Tryz.prog .eql 89 true false v0 (Value.pointer none) h fun v1 h =>
 CondW v1 (
 CallW Tryz.prog 60 [a0] h fun v2 h =>
 κ v2 h) (
 CallW Tryz.prog 105 [v0, a1, a2] h fun v3 h =>
 κ v3 h)) := by kernel_rfl

noncomputable def rs_51_0 (v1 : Value) (l4 : List Value) (a0 : Value) (N3 : List Value → Heap → Prop) (v5 : Value) (h : Heap) : Prop :=
 indexAddrS False 2 v1 (slot l4 23) h fun v6 h =>
 loadA False 2 v6 h fun v7 h =>
 cellsK False [(Value.int .i64 (0)), (Value.int .i64 (0))] 24 false fun o8 => newBlock False o8 h fun b9 h =>
 storeV False 2 (ptrTo b9) v7 h fun v10 h =>
 RdK (some a0) h fun v11 h =>
 RdK (nilB none v11 h fun v _ => some v) h fun v12 h =>
 RdK (fieldAddrB none 2 v12 h fun v _ => some v) h fun v13 h =>
 RdK (load1 none v13 h fun v _ => some v) h fun v14 h =>
 RdK (loadA none 2 (ptrTo b9) h fun v _ => some v) h fun v15 h =>
 RdK (lookupB none Tryz.prog 24 (Value.pointer none) false v14 v15 h fun v _ => some v) h fun v16 h =>
 RdK (nilB none v16 h fun v _ => some v) h fun v17 h =>
 RdK (loadA none 4 v17 h fun v _ => some v) h fun v18 h =>
 AlK (cellsK none [(Value.int .i64 (0)), (Value.int .i64 (0)), (Value.slice none 0 0), (Value.int .i64 (0))] 51 false fun o => some (o, ptrTo)) h fun v19 h =>
 storeV False 4 v19 v18 h fun v20 h =>
 fieldAddrB False 2 v19 h fun v21 h =>
 load1 False v21 h fun v22 h =>
 CallW Tryz.prog 107 [v22] h fun v23 h =>
 fieldAddrB False 2 v19 h fun v24 h =>
 storeV False 1 v24 v23 h fun v25 h =>
 loadA False 4 v19 h fun v26 h =>
 fillB False [(0, 4)] [v26] (repeatL [(Value.int .i64 (0)), (Value.int .i64 (0)), (Value.slice none 0 0), (Value.int .i64 (0))] 1) fun cs29 => cellsK False cs29 51 false fun o27 => newBlock False o27 h fun b28 h =>
 appendB False 51 4 [(Value.int .i64 (0)), (Value.int .i64 (0)), (Value.slice none 0 0), (Value.int .i64 (0))] false (slot l4 21) (sliceTo 1 1 b28) h fun v30 h =>
 binB False Tryz.prog .add 3 true false (slot l4 23) (Value.int .i64 (1)) h fun v31 h =>
 N3 [v5, v6, v7, (ptrTo b9), v11, v12, v13, v14, v15, v16, v17, v18, v19, v21, v22, v23, v24, (slot l4 21), v26, (sliceTo 1 1 b28), v30, v30, v31, v31] h

noncomputable def rs_51_1 (a0 : Value) (h : Heap) (κ : Value → Heap → Prop) : Prop :=
 CallW Tryz.prog 106 [a0] h fun v1 h =>
 lenSli False v1 h fun v2 h =>
 LoopR [undef, undef, undef, undef, undef, undef, undef, undef, undef, undef, undef, undef, undef, undef, undef, undef, undef, undef, undef, undef, undef, (Value.slice none 0 0), undef, (Value.int .i64 (0))] h fun l4 h N3 =>
 binB False Tryz.prog .lss 3 false false (slot l4 23) v2 h fun v5 h =>
 CondW v5 (
 rs_51_0 v1 l4 a0 N3 v5 h) (
 κ (slot l4 21) h)

/-- (*latchstring/bucket.Bucket).Heads -/
theorem rs_51 (a0 : Value) (h : Heap) (κ : Value → Heap → Prop) : BodyW Tryz.prog 51 [a0] h κ = (
 binB False Tryz.prog .eql 89 true false a0 (Value.pointer none) h fun v0 h =>
 CondW v0 (
 κ (Value.slice none 0 0) h) (
 rs_51_1 a0 h κ)) := by kernel_rfl

/-- latchstring/name.Compare -/
theorem rs_54 (a0 a1 : Value) (h : Heap) (κ : Value → Heap → Prop) : BodyW Tryz.prog 54 [a0, a1] h κ = (
 cellsK False (Value.cells a0).toList 24 false fun o0 => newBlock False o0 h fun b1 h =>
 cellsK False (Value.cells a1).toList 24 false fun o2 => newBlock False o2 h fun b3 h =>
 RdK (fieldAddrB none 0 (ptrTo b1) h fun v _ => some v) h fun v4 h =>
 RdK (load1 none v4 h fun v _ => some v) h fun v5 h =>
 RdK (fieldAddrB none 0 (ptrTo b3) h fun v _ => some v) h fun v6 h =>
 RdK (load1 none v6 h fun v _ => some v) h fun v7 h =>
 RdK (fieldAddrB none 1 (ptrTo b1) h fun v _ => some v) h fun v8 h =>
 RdK (load1 none v8 h fun v _ => some v) h fun v9 h =>
 RdK (fieldAddrB none 1 (ptrTo b3) h fun v _ => some v) h fun v10 h =>
 RdK (load1 none v10 h fun v _ => some v) h fun v11 h =>
 CallW Tryz.prog 58 [v5, v7] h fun v12 h =>
 SameK ((reV (fieldAddrB none 1 (ptrTo b1) h fun v _ => some v) v8) && ((reV (load1 none v8 h fun v _ => some v) v9) && ((reV (fieldAddrB none 1 (ptrTo b3) h fun v _ => some v) v10) && ((reV (load1 none v10 h fun v _ => some v) v11) && true)))) (CallW Tryz.prog 58 [v9, v11] h fun v13 h =>
 AlK (fillB none [(0, 1), (1, 1)] [v12, v13] (repeatL [(Value.int .i64 (0))] 2) fun cs => cellsK none cs 3 false fun o => some (o, sliceTo 2 2)) h fun v14 h =>
 CallW Tryz.prog 57 [v14] h fun v15 h =>
 κ v15 h)) := by kernel_rfl

/-- (*latchstring/table.Table).All$1 -/
theorem rs_56 (a0 a1 : Value) (h : Heap) (κ : Value → Heap → Prop) : BodyW Tryz.prog 56 [a0, a1] h κ = (
 cellsK False (Value.cells a0).toList 57 false fun o0 => newBlock False o0 h fun b1 h =>
 cellsK False (Value.cells a1).toList 57 false fun o2 => newBlock False o2 h fun b3 h =>
 RdK (fieldAddrB none 0 (ptrTo b1) h fun v _ => some v) h fun v4 h =>
 RdK (load1 none v4 h fun v _ => some v) h fun v5 h =>
 RdK (fieldAddrB none 0 (ptrTo b3) h fun v _ => some v) h fun v6 h =>
 RdK (load1 none v6 h fun v _ => some v) h fun v7 h =>
 RdK (fieldAddrB none 1 (ptrTo b1) h fun v _ => some v) h fun v8 h =>
 RdK (loadA none 2 v8 h fun v _ => some v) h fun v9 h =>
 RdK (fieldAddrB none 1 (ptrTo b3) h fun v _ => some v) h fun v10 h =>
 RdK (loadA none 2 v10 h fun v _ => some v) h fun v11 h =>
 CallW Tryz.prog 58 [v5, v7] h fun v12 h =>
 SameK ((reV (fieldAddrB none 1 (ptrTo b1) h fun v _ => some v) v8) && ((reV (loadA none 2 v8 h fun v _ => some v) v9) && ((reV (fieldAddrB none 1 (ptrTo b3) h fun v _ => some v) v10) && ((reV (loadA none 2 v10 h fun v _ => some v) v11) && true)))) (CallW Tryz.prog 54 [v9, v11] h fun v13 h =>
 AlK (fillB none [(0, 1), (1, 1)] [v12, v13] (repeatL [(Value.int .i64 (0))] 2) fun cs => cellsK none cs 3 false fun o => some (o, sliceTo 2 2)) h fun v14 h =>
 CallW Tryz.prog 57 [v14] h fun v15 h =>
 κ v15 h)) := by kernel_rfl

noncomputable def rs_57_0 (a0 : Value) (l2 : List Value) (N1 : List Value → Heap → Prop) (v3 : Value) (h : Heap) (κ : Value → Heap → Prop) : Prop :=
 indexAddrS False 1 a0 (slot l2 10) h fun v4 h =>
 load1 False v4 h fun v5 h =>
 binB False Tryz.prog .neq 3 false false v5 (Value.int .i64 (0)) h fun v6 h =>
 CondW v6 (
 κ v5 h) (
 binB False Tryz.prog .add 3 true false (slot l2 10) (Value.int .i64 (1)) h fun v7 h =>
 N1 [v3, v4, v5, v5, v5, (Value.int .i64 (0)), v6, (slot l2 7), (slot l2 8), v7, v7] h)

/-- cmp.Or[int] -/
theorem rs_57 (a0 : Value) (h : Heap) (κ : Value → Heap → Prop) : BodyW Tryz.prog 57 [a0] h κ = (
 lenSli False a0 h fun v0 h =>
 LoopR [undef, undef, undef, undef, undef, undef, undef, undef, (Value.int .i64 (0)), undef, (Value.int .i64 (0))] h fun l2 h N1 =>
 binB False Tryz.prog .lss 3 false false (slot l2 10) v0 h fun v3 h =>
 CondW v3 (
 rs_57_0 a0 l2 N1 v3 h κ) (
 κ (Value.int .i64 (0)) h)) := by kernel_rfl

noncomputable def rs_58_0 (a0 : Value) (a1 : Value) (h : Heap) (κ : Value → Heap → Prop) : Prop :=
 binB False Tryz.prog .lss 3 false false a0 a1 h fun v2 h =>
 CondW v2 (
 κ (Value.int .i64 (-1)) h) (
 binB False Tryz.prog .gtr 3 false false a0 a1 h fun v3 h =>
 CondW v3 (
 κ (Value.int .i64 (1)) h) (
 κ (Value.int .i64 (0)) h))

/-- cmp.Compare[int] -/
theorem rs_58 (a0 a1 : Value) (h : Heap) (κ : Value → Heap → Prop) : BodyW Tryz.prog 58 [a0, a1] h κ = (
 CallW Tryz.prog 111 [a0] h fun v0 h =>
 CallW Tryz.prog 111 [a1] h fun v1 h =>
 CondW v0 (
 CondW v1 (
 κ (Value.int .i64 (0)) h) (
 κ (Value.int .i64 (-1)) h)) (
 CondW v1 (
 κ (Value.int .i64 (1)) h) (
 rs_58_0 a0 a1 h κ))) := by kernel_rfl

noncomputable def rs_59_0 (a0 : Value) (a1 : Value) (h : Heap) (κ : Value → Heap → Prop) : Prop :=
 nilB False a0 h fun v1 h =>
 fieldAddrB False 6 v1 h fun v2 h =>
 load1 False v2 h fun v3 h =>
 lookupB False Tryz.prog 3 (Value.int .i64 (0)) true v3 a1 h fun v4 h =>
 extractB False 0 v4 h fun v5 h =>
 extractB False 1 v4 h fun v6 h =>
 unB False .not v6 h fun v7 h =>
 GuardW (wantV v7 false) (fun K8 =>
 K8 a0 h) h fun v9 h =>
 GuardW (wantV v7 false) (fun K10 =>
 nilB False v9 h K10) h fun v11 h =>
 GuardW (wantV v7 false) (fun K12 =>
 fieldAddrB False 4 v11 h K12) h fun v13 h =>
 GuardW (wantV v7 false) (fun K14 =>
 load1 False v13 h K14) h fun v15 h =>
 GuardW (wantV v7 false) (fun K16 =>
 K16 a1 h) h fun v17 h =>
 GuardW (wantV v7 false) (fun K18 =>
 CallW Tryz.prog 112 [v15, v17] h K18) h fun v19 h =>
 GuardW (wantV v7 false) (fun K20 =>
 unB False .not v19 h K20) h fun v21 h =>
 pickB False v7 (Value.bool true) v21 h fun v22 h =>
 CondW v22 (
 κ (Value.pointer none) h) (
 nilB False a0 h fun v23 h =>
 fieldAddrB False 5 v23 h fun v24 h =>
 load1 False v24 h fun v25 h =>
 indexAddrS False 1 v25 v5 h fun v26 h =>
 load1 False v26 h fun v27 h =>
 κ v27 h)

/-- (*latchstring/table.Table).of -/
theorem rs_59 (a0 a1 : Value) (h : Heap) (κ : Value → Heap → Prop) : BodyW Tryz.prog 59 [a0, a1] h κ = (
 binB False Tryz.prog .eql 30 true false a0 (Value.pointer none) h fun v0 h =>
 CondW v0 (
 κ (Value.pointer none) h) (
 rs_59_0 a0 a1 h κ)) := by kernel_rfl

/-- (*latchstring/table.Table).none -/
theorem rs_60 (a0 : Value) (h : Heap) (κ : Value → Heap → Prop) : BodyW Tryz.prog 60 [a0] h κ = (
 binB False Tryz.prog .eql 30 true false a0 (Value.pointer none) h fun v0 h =>
 CondW v0 (
 κ (Value.int .i64 (1)) h) (
 κ (Value.int .i64 (5)) h)) := by kernel_rfl

noncomputable def rs_61_0 (v0 : Value) (a1 : Value) (a0 : Value) (h : Heap) (κ : Value → Heap → Prop) : Prop :=
 nilB False v0 h fun v3 h =>
 loadA False 4 v3 h fun v4 h =>
 CallW Tryz.prog 115 [v4, a1] h fun v5 h =>
 extractB False 0 v5 h fun v6 h =>
 extractB False 1 v5 h fun v7 h =>
 cellsK False [(Value.int .i64 (0)), (Value.int .i64 (0)), (Value.slice none 0 0), (Value.int .i64 (0))] 51 false fun o8 => newBlock False o8 h fun b9 h =>
 storeV False 4 (ptrTo b9) v6 h fun v10 h =>
 nilB False a0 h fun v11 h =>
 fieldAddrB False 1 v11 h fun v12 h =>
 load1 False v12 h fun v13 h =>
 CallW Tryz.prog 116 [v13, a1] h fun v14 h =>
 loadA False 4 (ptrTo b9) h fun v15 h =>
 CallW Tryz.prog 99 [a0, v15] h fun v16 h =>
 κ (Value.tuple (Array.mk [v16, (Value.int .i64 (0))])) h

/-- (*latchstring/bucket.Bucket).Leave -/
theorem rs_61 (a0 a1 : Value) (h : Heap) (κ : Value → Heap → Prop) : BodyW Tryz.prog 61 [a0, a1] h κ = (
 CallW Tryz.prog 113 [a0, a1] h fun v0 h =>
 binB False Tryz.prog .eql 138 true false v0 (Value.pointer none) h fun v1 h =>
 CondW v1 (
 CallW Tryz.prog 114 [a0] h fun v2 h =>
 κ (Value.tuple (Array.mk [(Value.slice none 0 0), v2])) h) (
 rs_61_0 v0 a1 a0 h κ)) := by kernel_rfl

/-- latchstring/latchstringref09.copied -/
theorem rs_62 (a0 : Value) (h : Heap) (κ : Value → Heap → Prop) : BodyW Tryz.prog 62 [a0] h κ = (
 cellsK False (Value.cells a0).toList 51 false fun o0 => newBlock False o0 h fun b1 h =>
 cellsK False [(Value.int .i64 (0)), (Value.int .i64 (0)), (Value.slice none 0 0), (Value.int .i64 (0))] 51 false fun o2 => newBlock False o2 h fun b3 h =>
 fillB False [] [] (repeatL [(Value.int .i64 (0)), (Value.int .i64 (0)), (Value.int .i64 (0)), (Value.int .i64 (0)), (Value.int .i64 (0))] 0) fun cs6 => cellsK False cs6 54 false fun o4 => newBlock False o4 h fun b5 h =>
 fieldAddrB False 2 (ptrTo b1) h fun v7 h =>
 load1 False v7 h fun v8 h =>
 appendB False 54 5 [(Value.int .i64 (0)), (Value.int .i64 (0)), (Value.int .i64 (0)), (Value.int .i64 (0)), (Value.int .i64 (0))] false (sliceTo 0 0 b5) v8 h fun v9 h =>
 fieldAddrB False 2 (ptrTo b1) h fun v10 h =>
 storeV False 1 v10 v9 h fun v11 h =>
 loadA False 4 (ptrTo b1) h fun v12 h =>
 storeV False 4 (ptrTo b3) v12 h fun v13 h =>
 loadA False 4 (ptrTo b3) h fun v14 _ => κ v14 h) := by kernel_rfl

noncomputable def rs_63_0 (b1 : Nat) (l3 : List Value) (N8 : List Value → Heap → Prop) (h : Heap) : Prop :=
 fieldAddrB False 2 (ptrTo b1) h fun v10 h =>
 load1 False v10 h fun v11 h =>
 indexAddrS False 5 v11 (slot l3 36) h fun v12 h =>
 loadA False 5 v12 h fun v13 h =>
 cellsK False [(Value.int .i64 (0)), (Value.int .i64 (0)), (Value.int .i64 (0)), (Value.int .i64 (0)), (Value.int .i64 (0))] 54 false fun o14 => newBlock False o14 h fun b15 h =>
 storeV False 5 (ptrTo b15) v13 h fun v16 h =>
 RdK (loadA none 5 (ptrTo b15) h fun v _ => some v) h fun v17 h =>
 CallW Tryz.prog 68 [v17] h fun v18 h =>
 RdK (some v18) h fun v19 h =>
 GuardW (wantV v19 true) (fun K20 =>
 RdK (loadA none 5 (ptrTo b15) h fun v _ => some v) h K20) h fun v21 h =>
 GuardW (wantV v19 true) (fun K22 =>
 CallW Tryz.prog 67 [v21] h K22) h fun v23 h =>
 RdK (pickB none v19 v23 (Value.bool false) h fun v _ => some v) h fun v24 h =>
 RdK (some v24) h fun v25 h =>
 GuardW (wantV v25 true) (fun K26 =>
 RdK (some (slot l3 33)) h K26) h fun v27 h =>
 GuardW (wantV v25 true) (fun K28 =>
 RdK (binB none Tryz.prog .lss 3 true false v27 (Value.int .i64 (0)) h fun v _ => some v) h K28) h fun v29 h =>
 GuardW (wantV v25 true) (fun K30 =>
 RdK (some v29) h K30) h fun v31 h =>
 GuardW (wantV v31 false) (fun K32 =>
 RdK (fieldAddrB none 4 (ptrTo b15) h fun v _ => some v) h K32) h fun v33 h =>
 GuardW (wantV v31 false) (fun K34 =>
 RdK (load1 none v33 h fun v _ => some v) h K34) h fun v35 h =>
 GuardW (wantV v31 false) (fun K36 =>
 RdK (fieldAddrB none 2 (ptrTo b1) h fun v _ => some v) h K36) h fun v37 h =>
 GuardW (wantV v31 false) (fun K38 =>
 RdK (load1 none v37 h fun v _ => some v) h K38) h fun v39 h =>
 GuardW (wantV v31 false) (fun K40 =>
 RdK (some (slot l3 33)) h K40) h fun v41 h =>
 GuardW (wantV v31 false) (fun K42 =>
 RdK (indexAddrS none 5 v39 v41 h fun v _ => some v) h K42) h fun v43 h =>
 GuardW (wantV v31 false) (fun K44 =>
 RdK (fieldAddrB none 4 v43 h fun v _ => some v) h K44) h fun v45 h =>
 GuardW (wantV v31 false) (fun K46 =>
 RdK (load1 none v45 h fun v _ => some v) h K46) h fun v47 h =>
 GuardW (wantV v31 false) (fun K48 =>
 RdK (binB none Tryz.prog .lss 3 false false v35 v47 h fun v _ => some v) h K48) h fun v49 h =>
 GuardW (wantV v25 true) (fun K50 =>
 RdK (pickB none v31 (Value.bool true) v49 h fun v _ => some v) h K50) h fun v51 h =>
 RdK (pickB none v25 v51 (Value.bool false) h fun v _ => some v) h fun v52 h =>
 CondW v52 (
 N8 [v10, v11, (slot l3 36), v12, v13, (ptrTo b15), v17, v18, v19, v21, v23, v24, v25, v27, v29, v31, v33, v35, v37, v39, v41, v43, v45, v47, v49, v51, v52, (slot l3 36), (slot l3 36)] h) (
 N8 [v10, v11, (slot l3 36), v12, v13, (ptrTo b15), v17, v18, v19, v21, v23, v24, v25, v27, v29, v31, v33, v35, v37, v39, v41, v43, v45, v47, v49, v51, v52, (slot l3 32), (slot l3 33)] h)

noncomputable def rs_63_1 (b1 : Nat) (l3 : List Value) (N2 : List Value → Heap → Prop) (h : Heap) (κ : Value → Heap → Prop) : Prop :=
 fieldAddrB False 2 (ptrTo b1) h fun v4 h =>
 load1 False v4 h fun v5 h =>
 lenSli False v5 h fun v6 h =>
 binB False Tryz.prog .lss 3 false false (slot l3 36) v6 h fun v7 h =>
 CondW v7 (
 JoinR (fun N8 =>
 rs_63_0 b1 l3 N8 h) fun l9 h =>
 binB False Tryz.prog .add 3 true false (slot l3 36) (Value.int .i64 (1)) h fun v53 h =>
 N2 [(slot l3 36), v4, v5, v6, v7, (slot l9 0), (slot l9 1), (slot l9 2), (slot l9 3), (slot l9 4), (slot l9 5), (slot l9 6), (slot l9 7), (slot l9 8), (slot l9 9), (slot l9 10), (slot l9 11), (slot l9 12), (slot l9 13), (slot l9 14), (slot l9 15), (slot l9 16), (slot l9 17), (slot l9 18), (slot l9 19), (slot l9 20), (slot l9 21), (slot l9 22), (slot l9 23), (slot l9 24), (slot l9 25), (slot l9 26), (slot l9 27), (slot l9 28), (slot l3 36), v53, v53] h) (
 κ (slot l3 33) h)

/-- latchstring/latchstringref09.upgrading -/
theorem rs_63 (a0 : Value) (h : Heap) (κ : Value → Heap → Prop) : BodyW Tryz.prog 63 [a0] h κ = (
 cellsK False (Value.cells a0).toList 51 false fun o0 => newBlock False o0 h fun b1 h =>
 LoopR [undef, undef, undef, undef, undef, undef, undef, undef, undef, undef, undef, undef, undef, undef, undef, undef, undef, undef, undef, undef, undef, undef, undef, undef, undef, undef, undef, undef, undef, undef, undef, undef, undef, (Value.int .i64 (-1)), undef, undef, (Value.int .i64 (0))] h fun l3 h N2 =>
 rs_63_1 b1 l3 N2 h κ) := by kernel_rfl

noncomputable def rs_64_0 (b1 : Nat) (l3 : List Value) (N2 : List Value → Heap → Prop) (v4 : Value) (v5 : Value) (v6 : Value) (v7 : Value) (h : Heap) (κ : Value → Heap → Prop) : Prop :=
 fieldAddrB False 2 (ptrTo b1) h fun v8 h =>
 load1 False v8 h fun v9 h =>
 indexAddrS False 5 v9 (slot l3 16) h fun v10 h =>
 loadA False 5 v10 h fun v11 h =>
 CallW Tryz.prog 68 [v11] h fun v12 h =>
 unB False .not v12 h fun v13 h =>
 CondW v13 (
 κ (slot l3 16) h) (
 binB False Tryz.prog .add 3 true false (slot l3 16) (Value.int .i64 (1)) h fun v14 h =>
 N2 [(slot l3 16), v4, v5, v6, v7, v8, v9, (slot l3 16), v10, v11, v12, v13, (slot l3 12), (slot l3 13), (slot l3 16), v14, v14] h)

noncomputable def rs_64_1 (b1 : Nat) (l3 : List Value) (N2 : List Value → Heap → Prop) (h : Heap) (κ : Value → Heap → Prop) : Prop :=
 fieldAddrB False 2 (ptrTo b1) h fun v4 h =>
 load1 False v4 h fun v5 h =>
 lenSli False v5 h fun v6 h =>
 binB False Tryz.prog .lss 3 false false (slot l3 16) v6 h fun v7 h =>
 CondW v7 (
 rs_64_0 b1 l3 N2 v4 v5 v6 v7 h κ) (
 κ (Value.int .i64 (-1)) h)

/-- latchstring/latchstringref09.waiting -/
theorem rs_64 (a0 : Value) (h : Heap) (κ : Value → Heap → Prop) : BodyW Tryz.prog 64 [a0] h κ = (
 cellsK False (Value.cells a0).toList 51 false fun o0 => newBlock False o0 h fun b1 h =>
 LoopR [undef, undef, undef, undef, undef, undef, undef, undef, undef, undef, undef, undef, undef, (Value.int .i64 (0)), undef, undef, (Value.int .i64 (0))] h fun l3 h N2 =>
 rs_64_1 b1 l3 N2 h κ) := by kernel_rfl

noncomputable def rs_65_0 (l3 : List Value) (a2 : Value) (b1 : Nat) (a1 : Value) (N2 : List Value → Heap → Prop) (v4 : Value) (v5 : Value) (v6 : Value) (v7 : Value) (h : Heap) (κ : Value → Heap → Prop) : Prop :=
 binB False Tryz.prog .neq 3 false false (slot l3 30) a2 h fun v8 h =>
 GuardW (wantV v8 true) (fun K9 =>
 fieldAddrB False 2 (ptrTo b1) h K9) h fun v10 h =>
 GuardW (wantV v8 true) (fun K11 =>
 load1 False v10 h K11) h fun v12 h =>
 GuardW (wantV v8 true) (fun K13 =>
 K13 (slot l3 30) h) h fun v14 h =>
 GuardW (wantV v8 true) (fun K15 =>
 indexAddrS False 5 v12 v14 h K15) h fun v16 h =>
 GuardW (wantV v8 true) (fun K17 =>
 loadA False 5 v16 h K17) h fun v18 h =>
 GuardW (wantV v8 true) (fun K19 =>
 CallW Tryz.prog 68 [v18] h K19) h fun v20 h =>
 pickB False v8 v20 (Value.bool false) h fun v21 h =>
 GuardW (wantV v21 true) (fun K22 =>
 fieldAddrB False 2 (ptrTo b1) h K22) h fun v23 h =>
 GuardW (wantV v21 true) (fun K24 =>
 load1 False v23 h K24) h fun v25 h =>
 GuardW (wantV v21 true) (fun K26 =>
 K26 (slot l3 30) h) h fun v27 h =>
 GuardW (wantV v21 true) (fun K28 =>
 indexAddrS False 5 v25 v27 h K28) h fun v29 h =>
 GuardW (wantV v21 true) (fun K30 =>
 fieldAddrB False 2 v29 h K30) h fun v31 h =>
 GuardW (wantV v21 true) (fun K32 =>
 load1 False v31 h K32) h fun v33 h =>
 GuardW (wantV v21 true) (fun K34 =>
 K34 a1 h) h fun v35 h =>
 GuardW (wantV v21 true) (fun K36 =>
 CallW Tryz.prog 24 [v33, v35] h K36) h fun v37 h =>
 GuardW (wantV v21 true) (fun K38 =>
 unB False .not v37 h K38) h fun v39 h =>
 pickB False v21 v39 (Value.bool false) h fun v40 h =>
 CondW v40 (
 κ (Value.bool false) h) (
 binB False Tryz.prog .add 3 true false (slot l3 30) (Value.int .i64 (1)) h fun v41 h =>
 N2 [(slot l3 30), v4, v5, v6, v7, (slot l3 30), a2, v8, v8, v10, v12, v14, v16, v18, v20, v21, v21, v23, v25, v27, v29, v31, v33, v35, v37, v39, v40, (slot l3 27), (slot l3 30), v41, v41] h)

noncomputable def rs_65_1 (b1 : Nat) (l3 : List Value) (a2 : Value) (a1 : Value) (N2 : List Value → Heap → Prop) (h : Heap) (κ : Value → Heap → Prop) : Prop :=
 fieldAddrB False 2 (ptrTo b1) h fun v4 h =>
 load1 False v4 h fun v5 h =>
 lenSli False v5 h fun v6 h =>
 binB False Tryz.prog .lss 3 false false (slot l3 30) v6 h fun v7 h =>
 CondW v7 (
 rs_65_0 l3 a2 b1 a1 N2 v4 v5 v6 v7 h κ) (
 κ (Value.bool true) h)

/-- latchstring/latchstringref09.fits -/
theorem rs_65 (a0 a1 a2 : Value) (h : Heap) (κ : Value → Heap → Prop) : BodyW Tryz.prog 65 [a0, a1, a2] h κ = (
 cellsK False (Value.cells a0).toList 51 false fun o0 => newBlock False o0 h fun b1 h =>
 LoopR [undef, undef, undef, undef, undef, undef, undef, undef, undef, undef, undef, undef, undef, undef, undef, undef, undef, undef, undef, undef, undef, undef, undef, undef, undef, undef, undef, (Value.bool false), undef, undef, (Value.int .i64 (0))] h fun l3 h N2 =>
 rs_65_1 b1 l3 a2 a1 N2 h κ) := by kernel_rfl

noncomputable def rs_66_0 (b1 : Nat) (h : Heap) (κ : Value → Heap → Prop) : Prop :=
 fieldAddrB False 2 (ptrTo b1) h fun v41 h =>
 load1 False v41 h fun v42 h =>
 fieldAddrB False 3 (ptrTo b1) h fun v43 h =>
 load1 False v43 h fun v44 h =>
 CallW Tryz.prog 117 [v42, v44] h fun v45 h =>
 unB False .not v45 h fun v46 h =>
 κ v46 h

noncomputable def rs_66_1 (b1 : Nat) (h : Heap) (κ : Value → Heap → Prop) : Prop :=
 loadA False 5 (ptrTo b1) h fun v47 h =>
 CallW Tryz.prog 68 [v47] h fun v48 h =>
 GuardW (wantV v48 true) (fun K49 =>
 fieldAddrB False 3 (ptrTo b1) h K49) h fun v50 h =>
 GuardW (wantV v48 true) (fun K51 =>
 load1 False v50 h K51) h fun v52 h =>
 GuardW (wantV v48 true) (fun K53 =>
 fieldAddrB False 2 (ptrTo b1) h K53) h fun v54 h =>
 GuardW (wantV v48 true) (fun K55 =>
 load1 False v54 h K55) h fun v56 h =>
 GuardW (wantV v48 true) (fun K57 =>
 binB False Tryz.prog .eql 33 false false v52 v56 h K57) h fun v58 h =>
 pickB False v48 v58 (Value.bool false) h fun v59 h =>
 κ v59 h

/-- latchstring/latchstringref09.right -/
theorem rs_66 (a0 a1 : Value) (h : Heap) (κ : Value → Heap → Prop) : BodyW Tryz.prog 66 [a0, a1] h κ = (
 cellsK False (Value.cells a0).toList 54 false fun o0 => newBlock False o0 h fun b1 h =>
 fieldAddrB False 0 (ptrTo b1) h fun v2 h =>
 load1 False v2 h fun v3 h =>
 binB False Tryz.prog .lss 3 true false v3 (Value.int .i64 (0)) h fun v4 h =>
 GuardW (wantV v4 false) (fun K5 =>
 fieldAddrB False 2 (ptrTo b1) h K5) h fun v6 h =>
 GuardW (wantV v4 false) (fun K7 =>
 load1 False v6 h K7) h fun v8 h =>
 GuardW (wantV v4 false) (fun K9 =>
 CallW Tryz.prog 69 [v8] h K9) h fun v10 h =>
 GuardW (wantV v4 false) (fun K11 =>
 unB False .not v10 h K11) h fun v12 h =>
 pickB False v4 (Value.bool true) v12 h fun v13 h =>
 GuardW (wantV v13 false) (fun K14 =>
 fieldAddrB False 3 (ptrTo b1) h K14) h fun v15 h =>
 GuardW (wantV v13 false) (fun K16 =>
 load1 False v15 h K16) h fun v17 h =>
 GuardW (wantV v13 false) (fun K18 =>
 CallW Tryz.prog 69 [v17] h K18) h fun v19 h =>
 GuardW (wantV v13 false) (fun K20 =>
 unB False .not v19 h K20) h fun v21 h =>
 pickB False v13 (Value.bool true) v21 h fun v22 h =>
 GuardW (wantV v22 false) (fun K23 =>
 fieldAddrB False 4 (ptrTo b1) h K23) h fun v24 h =>
 GuardW (wantV v22 false) (fun K25 =>
 load1 False v24 h K25) h fun v26 h =>
 GuardW (wantV v22 false) (fun K27 =>
 binB False Tryz.prog .lss 3 true false v26 (Value.int .i64 (0)) h K27) h fun v28 h =>
 pickB False v22 (Value.bool true) v28 h fun v29 h =>
 GuardW (wantV v29 false) (fun K30 =>
 fieldAddrB False 4 (ptrTo b1) h K30) h fun v31 h =>
 GuardW (wantV v29 false) (fun K32 =>
 load1 False v31 h K32) h fun v33 h =>
 GuardW (wantV v29 false) (fun K34 =>
 K34 a1 h) h fun v35 h =>
 GuardW (wantV v29 false) (fun K36 =>
 binB False Tryz.prog .gtr 3 false false v33 v35 h K36) h fun v37 h =>
 pickB False v29 (Value.bool true) v37 h fun v38 h =>
 CondW v38 (
 κ (Value.bool false) h) (
 loadA False 5 (ptrTo b1) h fun v39 h =>
 CallW Tryz.prog 67 [v39] h fun v40 h =>
 CondW v40 (
 rs_66_0 b1 h κ) (
 rs_66_1 b1 h κ))) := by kernel_rfl

/-- latchstring/latchstringref09.Waits -/
theorem rs_67 (a0 : Value) (h : Heap) (κ : Value → Heap → Prop) : BodyW Tryz.prog 67 [a0] h κ = (
 cellsK False (Value.cells a0).toList 54 false fun o0 => newBlock False o0 h fun b1 h =>
 fieldAddrB False 4 (ptrTo b1) h fun v2 h =>
 load1 False v2 h fun v3 h =>
 binB False Tryz.prog .gtr 3 true false v3 (Value.int .i64 (0)) h fun v4 h =>
 κ v4 h) := by kernel_rfl

/-- latchstring/latchstringref09.Holds -/
theorem rs_68 (a0 : Value) (h : Heap) (κ : Value → Heap → Prop) : BodyW Tryz.prog 68 [a0] h κ = (
 cellsK False (Value.cells a0).toList 54 false fun o0 => newBlock False o0 h fun b1 h =>
 fieldAddrB False 2 (ptrTo b1) h fun v2 h =>
 load1 False v2 h fun v3 h =>
 binB False Tryz.prog .neq 33 true false v3 (Value.int .i64 (0)) h fun v4 h =>
 κ v4 h) := by kernel_rfl

/-- latchstring/latchstringref01.Known -/
theorem rs_69 (a0 : Value) (h : Heap) (κ : Value → Heap → Prop) : BodyW Tryz.prog 69 [a0] h κ = (
 binB False Tryz.prog .geq 33 true false a0 (Value.int .i64 (0)) h fun v0 h =>
 GuardW (wantV v0 true) (fun K1 =>
 K1 a0 h) h fun v2 h =>
 GuardW (wantV v0 true) (fun K3 =>
 binB False Tryz.prog .leq 33 true false v2 (Value.int .i64 (6)) h K3) h fun v4 h =>
 pickB False v0 v4 (Value.bool false) h fun v5 h =>
 κ v5 h) := by kernel_rfl

/-- (*latchstring/bucket.Bucket).Len -/
theorem rs_71 (a0 : Value) (h : Heap) (κ : Value → Heap → Prop) : BodyW Tryz.prog 71 [a0] h κ = (
 binB False Tryz.prog .eql 89 true false a0 (Value.pointer none) h fun v0 h =>
 CondW v0 (
 κ (Value.int .i64 (0)) h) (
 nilB False a0 h fun v1 h =>
 fieldAddrB False 2 v1 h fun v2 h =>
 load1 False v2 h fun v3 h =>
 lenMap False v3 h fun v4 h =>
 κ v4 h)) := by kernel_rfl

noncomputable def rs_72_0 (a0 : Value) (h : Heap) (κ : Value → Heap → Prop) : Prop :=
 RdK (some a0) h fun v1 h =>
 RdK (nilB none v1 h fun v _ => some v) h fun v2 h =>
 RdK (fieldAddrB none 1 v2 h fun v _ => some v) h fun v3 h =>
 RdK (load1 none v3 h fun v _ => some v) h fun v4 h =>
 RdK (lenSli none v4 h fun v _ => some v) h fun v5 h =>
 RdK (some a0) h fun v6 h =>
 RdK (nilB none v6 h fun v _ => some v) h fun v7 h =>
 RdK (fieldAddrB none 0 v7 h fun v _ => some v) h fun v8 h =>
 RdK (fieldAddrB none 0 v8 h fun v _ => some v) h fun v9 h =>
 RdK (load1 none v9 h fun v _ => some v) h fun v10 h =>
 CallW Tryz.prog 118 [v10] h fun v11 h =>
 SameK ((reV (some a0) v1) && ((reV (nilB none v1 h fun v _ => some v) v2) && ((reV (fieldAddrB none 1 v2 h fun v _ => some v) v3) && ((reV (load1 none v3 h fun v _ => some v) v4) && ((reV (lenSli none v4 h fun v _ => some v) v5) && true))))) (RdK (binB none Tryz.prog .sub 3 false false v5 v11 h fun v _ => some v) h fun v12 h =>
 κ v12 h)

/-- (*latchstring/pool.Pool).Live -/
theorem rs_72 (a0 : Value) (h : Heap) (κ : Value → Heap → Prop) : BodyW Tryz.prog 72 [a0] h κ = (
 binB False Tryz.prog .eql 82 true false a0 (Value.pointer none) h fun v0 h =>
 CondW v0 (
 κ (Value.int .i64 (0)) h) (
 rs_72_0 a0 h κ)) := by kernel_rfl

noncomputable def rs_73_0 (v4 : Value) (a1 : Value) (b1 : Nat) (b3 : Nat) (h : Heap) (κ : Value → Heap → Prop) : Prop :=
 nilB False v4 h fun v12 h =>
 loadA False 4 v12 h fun v13 h =>
 CallW Tryz.prog 119 [v13, a1] h fun v14 h =>
 extractB False 0 v14 h fun v15 h =>
 extractB False 1 v14 h fun v16 h =>
 cellsK False [(Value.int .i64 (0)), (Value.int .i64 (0)), (Value.int .i64 (0)), (Value.int .i64 (0)), (Value.int .i64 (0))] 54 false fun o17 => newBlock False o17 h fun b18 h =>
 storeV False 5 (ptrTo b18) v15 h fun v19 h =>
 RdK (some v4) h fun v20 h =>
 RdK (nilB none v20 h fun v _ => some v) h fun v21 h =>
 RdK (fieldAddrB none 0 v21 h fun v _ => some v) h fun v22 h =>
 RdK (loadA none 2 v22 h fun v _ => some v) h fun v23 h =>
 RdK (loadA none 5 (ptrTo b18) h fun v _ => some v) h fun v24 h =>
 RdK (some v16) h fun v25 h =>
 storeV False 2 (ptrTo b1) v23 h fun v26 h =>
 SameK ((reV (loadA none 5 (ptrTo b18) h fun v _ => some v) v24) && ((reV (some v16) v25) && true)) (storeV False 5 (ptrTo b3) v24 h fun v27 h =>
 SameK ((reV (some v16) v25) && true) (loadA False 2 (ptrTo b1) h fun v28 _ => loadA False 5 (ptrTo b3) h fun v29 _ => κ (Value.tuple (Array.mk [v28, v29, v25])) h))

/-- (*latchstring/bucket.Bucket).Get -/
theorem rs_73 (a0 a1 : Value) (h : Heap) (κ : Value → Heap → Prop) : BodyW Tryz.prog 73 [a0, a1] h κ = (
 cellsK False [(Value.int .i64 (0)), (Value.int .i64 (0))] 24 false fun o0 => newBlock False o0 h fun b1 h =>
 cellsK False [(Value.int .i64 (0)), (Value.int .i64 (0)), (Value.int .i64 (0)), (Value.int .i64 (0)), (Value.int .i64 (0))] 54 false fun o2 => newBlock False o2 h fun b3 h =>
 CallW Tryz.prog 113 [a0, a1] h fun v4 h =>
 binB False Tryz.prog .eql 138 true false v4 (Value.pointer none) h fun v5 h =>
 CondW v5 (
 fillB False [] [] [(Value.int .i64 (0)), (Value.int .i64 (0))] fun cs6 =>
 fillB False [] [] [(Value.int .i64 (0)), (Value.int .i64 (0)), (Value.int .i64 (0)), (Value.int .i64 (0)), (Value.int .i64 (0))] fun cs7 =>
 storeV False 2 (ptrTo b1) (Value.agg (Array.mk cs6)) h fun v8 h =>
 storeV False 5 (ptrTo b3) (Value.agg (Array.mk cs7)) h fun v9 h =>
 loadA False 2 (ptrTo b1) h fun v10 _ => loadA False 5 (ptrTo b3) h fun v11 _ => κ (Value.tuple (Array.mk [v10, v11, (Value.bool false)])) h) (
 rs_73_0 v4 a1 b1 b3 h κ)) := by kernel_rfl

noncomputable def rs_90_0 (v12 : Value) (v18 : Value) (h : Heap) (κ : Value → Heap → Prop) : Prop :=
 nilB False v12 h fun v20 h =>
 fieldAddrB False 2 v20 h fun v21 h =>
 load1 False v21 h fun v22 h =>
 indexAddrS False 5 v22 v18 h fun v23 h =>
 fieldAddrB False 0 v23 h fun v24 h =>
 load1 False v24 h fun v25 h =>
 κ (Value.tuple (Array.mk [v25, (Value.bool true)])) h

noncomputable def rs_90_1 (v12 : Value) (b3 : Nat) (h : Heap) (κ : Value → Heap → Prop) : Prop :=
 nilB False v12 h fun v15 h =>
 fieldAddrB False 2 v15 h fun v16 h =>
 load1 False v16 h fun v17 h =>
 CallW Tryz.prog 130 [v17, (Value.func (.func 131) (Array.mk []) (Array.mk [(ptrTo b3)]))] h fun v18 h =>
 binB False Tryz.prog .lss 3 true false v18 (Value.int .i64 (0)) h fun v19 h =>
 CondW v19 (
 κ (Value.tuple (Array.mk [(Value.int .i64 (0)), (Value.bool false)])) h) (
 rs_90_0 v12 v18 h κ)

noncomputable def rs_90_2 (a0 : Value) (b1 : Nat) (b3 : Nat) (h : Heap) (κ : Value → Heap → Prop) : Prop :=
 RdK (some a0) h fun v5 h =>
 RdK (nilB none v5 h fun v _ => some v) h fun v6 h =>
 RdK (fieldAddrB none 2 v6 h fun v _ => some v) h fun v7 h =>
 RdK (load1 none v7 h fun v _ => some v) h fun v8 h =>
 RdK (loadA none 2 (ptrTo b1) h fun v _ => some v) h fun v9 h =>
 RdK (lookupB none Tryz.prog 24 (Value.pointer none) true v8 v9 h fun v _ => some v) h fun v10 h =>
 RdK (some v10) h fun v11 h =>
 RdK (extractB none 0 v11 h fun v _ => some v) h fun v12 h =>
 RdK (extractB none 1 v11 h fun v _ => some v) h fun v13 h =>
 SameK ((reV (extractB none 1 v11 h fun v _ => some v) v13) && true) (unB False .not v13 h fun v14 h =>
 CondW v14 (
 κ (Value.tuple (Array.mk [(Value.int .i64 (0)), (Value.bool false)])) h) (
 rs_90_1 v12 b3 h κ))

/-- (*latchstring/bucket.Bucket).Find -/
theorem rs_90 (a0 a1 a2 : Value) (h : Heap) (κ : Value → Heap → Prop) : BodyW Tryz.prog 90 [a0, a1, a2] h κ = (
 cellsK False (Value.cells a1).toList 24 false fun o0 => newBlock False o0 h fun b1 h =>
 cellsK False (Value.cells a2).toList 3 false fun o2 => newBlock False o2 h fun b3 h =>
 binB False Tryz.prog .eql 89 true false a0 (Value.pointer none) h fun v4 h =>
 CondW v4 (
 κ (Value.tuple (Array.mk [(Value.int .i64 (0)), (Value.bool false)])) h) (
 rs_90_2 a0 b1 b3 h κ)) := by kernel_rfl

/-- latchstring/latchstringref02.Database -/
theorem rs_94 (h : Heap) (κ : Value → Heap → Prop) : BodyW Tryz.prog 94 [] h κ = (
 cellsK False [(Value.int .i64 (0)), (Value.int .i64 (0))] 24 false fun o0 => newBlock False o0 h fun b1 h =>
 fillB False [(0, 1), (1, 1)] [(Value.int .i64 (-1)), (Value.int .i64 (-1))] [(Value.int .i64 (0)), (Value.int .i64 (0))] fun cs2 =>
 storeV False 2 (ptrTo b1) (Value.agg (Array.mk cs2)) h fun v3 h =>
 loadA False 2 (ptrTo b1) h fun v4 _ => κ v4 h) := by kernel_rfl

/-- container/heap.Push -/
theorem rs_95 (a0 a1 : Value) (h : Heap) (κ : Value → Heap → Prop) : BodyW Tryz.prog 95 [a0, a1] h κ = (
 CallI Tryz.prog "Push" a0 [a1] h fun v0 h =>
 CallI Tryz.prog "Len" a0 [] h fun v1 h =>
 binB False Tryz.prog .sub 3 true false v1 (Value.int .i64 (1)) h fun v2 h =>
 CallW Tryz.prog 134 [a0, v2] h fun v3 h =>
 κ (Value.tuple (Array.mk [])) h) := by kernel_rfl

/-- latchstring/mode.Known -/
theorem rs_96 (a0 : Value) (h : Heap) (κ : Value → Heap → Prop) : BodyW Tryz.prog 96 [a0] h κ = (
 binB False Tryz.prog .geq 33 true false a0 (Value.int .i64 (0)) h fun v0 h =>
 GuardW (wantV v0 true) (fun K1 =>
 K1 a0 h) h fun v2 h =>
 GuardW (wantV v0 true) (fun K3 =>
 binB False Tryz.prog .leq 33 true false v2 (Value.int .i64 (6)) h K3) h fun v4 h =>
 pickB False v0 v4 (Value.bool false) h fun v5 h =>
 κ v5 h) := by kernel_rfl

noncomputable def rs_97_0 (a0 : Value) (h : Heap) (κ : Value → Heap → Prop) : Prop :=
 nilB False a0 h fun v7 h =>
 fieldAddrB False 0 v7 h fun v8 h =>
 CallW Tryz.prog 135 [(Value.iface 134 v8)] h fun v9 h =>
 typeAssertB False 3 (Value.int .i64 (0)) true v9 h fun v10 h =>
 extractB False 0 v10 h fun v11 h =>
 extractB False 1 v10 h fun v12 h =>
 nilB False a0 h fun v13 h =>
 fieldAddrB False 1 v13 h fun v14 h =>
 load1 False v14 h fun v15 h =>
 indexAddrS False 1 v15 v11 h fun v16 h =>
 storeV False 1 v16 (Value.bool true) h fun v17 h =>
 κ (Value.tuple (Array.mk [v11, (Value.int .i64 (0))])) h

noncomputable def rs_97_1 (a0 : Value) (h : Heap) (κ : Value → Heap → Prop) : Prop :=
 nilB False a0 h fun v1 h =>
 fieldAddrB False 0 v1 h fun v2 h =>
 fieldAddrB False 0 v2 h fun v3 h =>
 load1 False v3 h fun v4 h =>
 CallW Tryz.prog 118 [v4] h fun v5 h =>
 binB False Tryz.prog .eql 3 true false v5 (Value.int .i64 (0)) h fun v6 h =>
 CondW v6 (
 κ (Value.tuple (Array.mk [(Value.int .i64 (0)), (Value.int .i64 (8))])) h) (
 rs_97_0 a0 h κ)

/-- (*latchstring/pool.Pool).Take -/
theorem rs_97 (a0 : Value) (h : Heap) (κ : Value → Heap → Prop) : BodyW Tryz.prog 97 [a0] h κ = (
 binB False Tryz.prog .eql 82 true false a0 (Value.pointer none) h fun v0 h =>
 CondW v0 (
 κ (Value.tuple (Array.mk [(Value.int .i64 (0)), (Value.int .i64 (1))])) h) (
 rs_97_1 a0 h κ)) := by kernel_rfl

noncomputable def rs_98_0 (b29 : Nat) (b35 : Nat) (N47 : List Value → Heap → Prop) (v46 : Value) (h : Heap) : Prop :=
 fieldAddrB False 0 (ptrTo b29) h fun v51 h =>
 fieldAddrB False 3 v51 h fun v52 h =>
 load1 False v52 h fun v53 h =>
 binB False Tryz.prog .add 3 true false v53 (Value.int .i64 (1)) h fun v54 h =>
 fieldAddrB False 0 (ptrTo b29) h fun v55 h =>
 fieldAddrB False 3 v55 h fun v56 h =>
 storeV False 1 v56 v54 h fun v57 h =>
 fieldAddrB False 0 (ptrTo b29) h fun v58 h =>
 fieldAddrB False 3 v58 h fun v59 h =>
 load1 False v59 h fun v60 h =>
 fieldAddrB False 4 (ptrTo b35) h fun v61 h =>
 storeV False 1 v61 v60 h fun v62 h =>
 N47 [v46, undef, undef, v51, v52, v53, v54, v55, v56, v58, v59, v60, v61] h

noncomputable def rs_98_1 (b29 : Nat) (b35 : Nat) (b7 : Nat) (v46 : Value) (h : Heap) (κ : Value → Heap → Prop) : Prop :=
 fieldAddrB False 0 (ptrTo b29) h fun v63 h =>
 fieldAddrB False 2 v63 h fun v64 h =>
 load1 False v64 h fun v65 h =>
 loadA False 5 (ptrTo b35) h fun v66 h =>
 fillB False [(0, 5)] [v66] (repeatL [(Value.int .i64 (0)), (Value.int .i64 (0)), (Value.int .i64 (0)), (Value.int .i64 (0)), (Value.int .i64 (0))] 1) fun cs69 => cellsK False cs69 54 false fun o67 => newBlock False o67 h fun b68 h =>
 appendB False 54 5 [(Value.int .i64 (0)), (Value.int .i64 (0)), (Value.int .i64 (0)), (Value.int .i64 (0)), (Value.int .i64 (0))] false v65 (sliceTo 1 1 b68) h fun v70 h =>
 fieldAddrB False 0 (ptrTo b29) h fun v71 h =>
 fieldAddrB False 2 v71 h fun v72 h =>
 storeV False 1 v72 v70 h fun v73 h =>
 fieldAddrB False 0 (ptrTo b29) h fun v74 h =>
 loadA False 4 v74 h fun v75 h =>
 storeV False 4 (ptrTo b7) v75 h fun v76 h =>
 loadA False 4 (ptrTo b7) h fun v77 _ => κ (Value.tuple (Array.mk [v77, v46, (Value.int .i64 (0))])) h

noncomputable def rs_98_2 (b1 : Nat) (b3 : Nat) (b5 : Nat) (a3 : Value) (b7 : Nat) (h : Heap) (κ : Value → Heap → Prop) : Prop :=
 loadA False 4 (ptrTo b1) h fun v26 h =>
 CallW Tryz.prog 139 [v26] h fun v27 h =>
 cellsK False [(Value.int .i64 (0)), (Value.int .i64 (0)), (Value.slice none 0 0), (Value.int .i64 (0))] 178 false fun o28 => newBlock False o28 h fun b29 h =>
 storeV False 4 (ptrTo b29) v27 h fun v30 h =>
 load1 False (ptrTo b3) h fun v31 h =>
 load1 False (ptrTo b5) h fun v32 h =>
 fillB False [(0, 1), (1, 1), (3, 1)] [v31, v32, a3] [(Value.int .i64 (0)), (Value.int .i64 (0)), (Value.int .i64 (0)), (Value.int .i64 (0)), (Value.int .i64 (0))] fun cs33 =>
 cellsK False [(Value.int .i64 (0)), (Value.int .i64 (0)), (Value.int .i64 (0)), (Value.int .i64 (0)), (Value.int .i64 (0))] 54 false fun o34 => newBlock False o34 h fun b35 h =>
 storeV False 5 (ptrTo b35) (Value.agg (Array.mk cs33)) h fun v36 h =>
 loadA False 4 (ptrTo b29) h fun v37 h =>
 CallW Tryz.prog 140 [v37] h fun v38 h =>
 binB False Tryz.prog .lss 3 true false v38 (Value.int .i64 (0)) h fun v39 h =>
 GuardW (wantV v39 true) (fun K40 =>
 loadA False 4 (ptrTo b29) h K40) h fun v41 h =>
 GuardW (wantV v39 true) (fun K42 =>
 loadA False 5 (ptrTo b35) h K42) h fun v43 h =>
 GuardW (wantV v39 true) (fun K44 =>
 CallW Tryz.prog 141 [v41, v43] h K44) h fun v45 h =>
 pickB False v39 v45 (Value.bool false) h fun v46 h =>
 JoinR (fun N47 =>
 CondW v46 (
 fieldAddrB False 2 (ptrTo b35) h fun v49 h =>
 storeV False 1 v49 a3 h fun v50 h =>
 N47 [v46, a3, v49, undef, undef, undef, undef, undef, undef, undef, undef, undef, undef] h) (
 rs_98_0 b29 b35 N47 v46 h)) fun l48 h =>
 rs_98_1 b29 b35 b7 v46 h κ

noncomputable def rs_98_3 (b1 : Nat) (b3 : Nat) (b5 : Nat) (b7 : Nat) (a3 : Value) (h : Heap) (κ : Value → Heap → Prop) : Prop :=
 fieldAddrB False 2 (ptrTo b1) h fun v20 h =>
 load1 False v20 h fun v21 h =>
 CallW Tryz.prog 137 [v21, (Value.func (.func 138) (Array.mk []) (Array.mk [(ptrTo b3), (ptrTo b5)]))] h fun v22 h =>
 CondW v22 (
 fillB False [] [] [(Value.int .i64 (0)), (Value.int .i64 (0)), (Value.slice none 0 0), (Value.int .i64 (0))] fun cs23 =>
 storeV False 4 (ptrTo b7) (Value.agg (Array.mk cs23)) h fun v24 h =>
 loadA False 4 (ptrTo b7) h fun v25 _ => κ (Value.tuple (Array.mk [v25, (Value.bool false), (Value.int .i64 (4))])) h) (
 rs_98_2 b1 b3 b5 a3 b7 h κ)

/-- latchstring/queue.Ask -/
theorem rs_98 (a0 a1 a2 a3 : Value) (h : Heap) (κ : Value → Heap → Prop) : BodyW Tryz.prog 98 [a0, a1, a2, a3] h κ = (
 cellsK False (Value.cells a0).toList 51 false fun o0 => newBlock False o0 h fun b1 h =>
 cellsK False (Value.cells a1).toList 3 false fun o2 => newBlock False o2 h fun b3 h =>
 cellsK False (Value.cells a2).toList 3 false fun o4 => newBlock False o4 h fun b5 h =>
 cellsK False [(Value.int .i64 (0)), (Value.int .i64 (0)), (Value.slice none 0 0), (Value.int .i64 (0))] 51 false fun o6 => newBlock False o6 h fun b7 h =>
 load1 False (ptrTo b3) h fun v8 h =>
 binB False Tryz.prog .lss 3 true false v8 (Value.int .i64 (0)) h fun v9 h =>
 GuardW (wantV v9 false) (fun K10 =>
 K10 a3 h) h fun v11 h =>
 GuardW (wantV v9 false) (fun K12 =>
 CallW Tryz.prog 136 [v11] h K12) h fun v13 h =>
 GuardW (wantV v9 false) (fun K14 =>
 unB False .not v13 h K14) h fun v15 h =>
 pickB False v9 (Value.bool true) v15 h fun v16 h =>
 CondW v16 (
 fillB False [] [] [(Value.int .i64 (0)), (Value.int .i64 (0)), (Value.slice none 0 0), (Value.int .i64 (0))] fun cs17 =>
 storeV False 4 (ptrTo b7) (Value.agg (Array.mk cs17)) h fun v18 h =>
 loadA False 4 (ptrTo b7) h fun v19 _ => κ (Value.tuple (Array.mk [v19, (Value.bool false), (Value.int .i64 (2))])) h) (
 rs_98_3 b1 b3 b5 b7 a3 h κ)) := by kernel_rfl

noncomputable def rs_99_0 (a0 : Value) (b1 : Nat) (N7 : List Value → Heap → Prop) (v9 : Value) (v10 : Value) (v11 : Value) (v12 : Value) (h : Heap) : Prop :=
 RdK (some a0) h fun v13 h =>
 RdK (nilB none v13 h fun v _ => some v) h fun v14 h =>
 RdK (fieldAddrB none 2 v14 h fun v _ => some v) h fun v15 h =>
 RdK (load1 none v15 h fun v _ => some v) h fun v16 h =>
 RdK (fieldAddrB none 0 (ptrTo b1) h fun v _ => some v) h fun v17 h =>
 RdK (loadA none 2 v17 h fun v _ => some v) h fun v18 h =>
 deleteB False Tryz.prog 24 v16 v18 h fun v19 h =>
 N7 [v9, v10, v11, v12, v13, v14, v15, v16, v17, v18, undef, undef, undef, undef, undef, undef] h

noncomputable def rs_99_1 (a0 : Value) (b1 : Nat) (N7 : List Value → Heap → Prop) (v9 : Value) (v10 : Value) (v11 : Value) (v12 : Value) (h : Heap) : Prop :=
 RdK (some a0) h fun v20 h =>
 RdK (nilB none v20 h fun v _ => some v) h fun v21 h =>
 RdK (fieldAddrB none 2 v21 h fun v _ => some v) h fun v22 h =>
 RdK (load1 none v22 h fun v _ => some v) h fun v23 h =>
 RdK (fieldAddrB none 0 (ptrTo b1) h fun v _ => some v) h fun v24 h =>
 RdK (loadA none 2 v24 h fun v _ => some v) h fun v25 h =>
 mapUpdateB False Tryz.prog 24 v23 v25 (ptrTo b1) h fun v26 h =>
 N7 [v9, v10, v11, v12, undef, undef, undef, undef, undef, undef, v20, v21, v22, v23, v24, v25] h

noncomputable def rs_99_2 (b1 : Nat) (a0 : Value) (N7 : List Value → Heap → Prop) (h : Heap) : Prop :=
 fieldAddrB False 2 (ptrTo b1) h fun v9 h =>
 load1 False v9 h fun v10 h =>
 lenSli False v10 h fun v11 h =>
 binB False Tryz.prog .eql 3 true false v11 (Value.int .i64 (0)) h fun v12 h =>
 CondW v12 (
 rs_99_0 a0 b1 N7 v9 v10 v11 v12 h) (
 rs_99_1 a0 b1 N7 v9 v10 v11 v12 h)

/-- (*latchstring/bucket.Bucket).settle -/
theorem rs_99 (a0 a1 : Value) (h : Heap) (κ : Value → Heap → Prop) : BodyW Tryz.prog 99 [a0, a1] h κ = (
 cellsK False (Value.cells a1).toList 51 false fun o0 => newBlock False o0 h fun b1 h =>
 loadA False 4 (ptrTo b1) h fun v2 h =>
 CallW Tryz.prog 142 [v2] h fun v3 h =>
 extractB False 0 v3 h fun v4 h =>
 extractB False 1 v3 h fun v5 h =>
 storeV False 4 (ptrTo b1) v4 h fun v6 h =>
 JoinR (fun N7 =>
 rs_99_2 b1 a0 N7 h) fun l8 h =>
 κ v5 h) := by kernel_rfl

/-- latchstring/stripe.may -/
theorem rs_100 (a0 : Value) (h : Heap) (κ : Value → Heap → Prop) : BodyW Tryz.prog 100 [a0] h κ = (
 binB False Tryz.prog .geq 3 true false a0 (Value.int .i64 (1)) h fun v0 h =>
 GuardW (wantV v0 true) (fun K1 =>
 K1 a0 h) h fun v2 h =>
 GuardW (wantV v0 true) (fun K3 =>
 binB False Tryz.prog .leq 3 true false v2 (Value.int .i64 (16)) h K3) h fun v4 h =>
 pickB False v0 v4 (Value.bool false) h fun v5 h =>
 κ v5 h) := by kernel_rfl

/-- latchstring/name.Check -/
theorem rs_101 (a0 : Value) (h : Heap) (κ : Value → Heap → Prop) : BodyW Tryz.prog 101 [a0] h κ = (
 cellsK False (Value.cells a0).toList 24 false fun o0 => newBlock False o0 h fun b1 h =>
 loadA False 2 (ptrTo b1) h fun v2 h =>
 CallW Tryz.prog 143 [v2] h fun v3 h =>
 binB False Tryz.prog .eql 3 true false v3 (Value.int .i64 (-1)) h fun v4 h =>
 CondW v4 (
 κ (Value.int .i64 (2)) h) (
 κ (Value.int .i64 (0)) h)) := by kernel_rfl

/-- latchstring/stripe.Hash -/
theorem rs_102 (a0 : Value) (h : Heap) (κ : Value → Heap → Prop) : BodyW Tryz.prog 102 [a0] h κ = (
 cellsK False (Value.cells a0).toList 24 false fun o0 => newBlock False o0 h fun b1 h =>
 loadA False 2 (ptrTo b1) h fun v2 h =>
 CallW Tryz.prog 145 [v2] h fun v3 h =>
 CallW Tryz.prog 144 [v3] h fun v4 h =>
 κ v4 h) := by kernel_rfl

noncomputable def rs_103_0 (l3 : List Value) (a1 : Value) (a2 : Value) (a0 : Value) (h : Heap) (κ : Value → Heap → Prop) : Prop :=
 nilB False (slot l3 4) h fun v8 h =>
 loadA False 4 v8 h fun v9 h =>
 CallW Tryz.prog 146 [v9, a1, a2] h fun v10 h =>
 extractB False 0 v10 h fun v11 h =>
 extractB False 1 v10 h fun v12 h =>
 extractB False 2 v10 h fun v13 h =>
 cellsK False [(Value.int .i64 (0)), (Value.int .i64 (0)), (Value.slice none 0 0), (Value.int .i64 (0))] 51 false fun o14 => newBlock False o14 h fun b15 h =>
 storeV False 4 (ptrTo b15) v11 h fun v16 h =>
 binB False Tryz.prog .neq 26 true false v13 (Value.int .i64 (0)) h fun v17 h =>
 CondW v17 (
 κ (Value.tuple (Array.mk [(Value.bool false), v13])) h) (
 loadA False 4 (ptrTo b15) h fun v18 h =>
 CallW Tryz.prog 99 [a0, v18] h fun v19 h =>
 κ (Value.tuple (Array.mk [v12, (Value.int .i64 (0))])) h)

noncomputable def rs_103_1 (a0 : Value) (a1 : Value) (a2 : Value) (h : Heap) (κ : Value → Heap → Prop) : Prop :=
 CallW Tryz.prog 113 [a0, a1] h fun v1 h =>
 JoinR (fun N2 =>
 binB False Tryz.prog .eql 138 true false v1 (Value.pointer none) h fun v4 h =>
 CondW v4 (
 fillB False [] [] [(Value.int .i64 (0)), (Value.int .i64 (0)), (Value.slice none 0 0), (Value.int .i64 (0))] fun cs5 =>
 cellsK False (Value.cells (Value.agg (Array.mk cs5))).toList 51 false fun o6 => newBlock False o6 h fun b7 h =>
 N2 [v1, v4, (Value.agg (Array.mk cs5)), (ptrTo b7), (ptrTo b7)] h) (
 N2 [v1, v4, undef, undef, v1] h)) fun l3 h =>
 rs_103_0 l3 a1 a2 a0 h κ

/-- (*latchstring/bucket.Bucket).Upgrade -/
theorem rs_103 (a0 a1 a2 : Value) (h : Heap) (κ : Value → Heap → Prop) : BodyW Tryz.prog 103 [a0, a1, a2] h κ = (
 binB False Tryz.prog .eql 89 true false a0 (Value.pointer none) h fun v0 h =>
 CondW v0 (
 κ (Value.tuple (Array.mk [(Value.bool false), (Value.int .i64 (1))])) h) (
 rs_103_1 a0 a1 a2 h κ)) := by kernel_rfl

noncomputable def rs_104_0 (b9 : Nat) (a1 : Value) (a0 : Value) (N12 : List Value → Heap → Prop) (h : Heap) : Prop :=
 loadA False 4 (ptrTo b9) h fun v14 h =>
 CallW Tryz.prog 119 [v14, a1] h fun v15 h =>
 extractB False 0 v15 h fun v16 h =>
 extractB False 1 v15 h fun v17 h =>
 cellsK False [(Value.int .i64 (0)), (Value.int .i64 (0)), (Value.int .i64 (0)), (Value.int .i64 (0)), (Value.int .i64 (0))] 54 false fun o18 => newBlock False o18 h fun b19 h =>
 storeV False 5 (ptrTo b19) v16 h fun v20 h =>
 unB False .not v17 h fun v21 h =>
 CondW v21 (
 nilB False a0 h fun v22 h =>
 fieldAddrB False 1 v22 h fun v23 h =>
 load1 False v23 h fun v24 h =>
 CallW Tryz.prog 116 [v24, a1] h fun v25 h =>
 N12 [v14, a1, v15, v15, v16, v17, (ptrTo b19), v17, v17, v21, a0, v22, v23, v24, a1, v25] h) (
 N12 [v14, a1, v15, v15, v16, v17, (ptrTo b19), v17, v17, v21, undef, undef, undef, undef, undef, undef] h)

noncomputable def rs_104_1 (v0 : Value) (a1 : Value) (a0 : Value) (h : Heap) (κ : Value → Heap → Prop) : Prop :=
 nilB False v0 h fun v3 h =>
 loadA False 4 v3 h fun v4 h =>
 CallW Tryz.prog 147 [v4, a1] h fun v5 h =>
 extractB False 0 v5 h fun v6 h =>
 extractB False 1 v5 h fun v7 h =>
 cellsK False [(Value.int .i64 (0)), (Value.int .i64 (0)), (Value.slice none 0 0), (Value.int .i64 (0))] 51 false fun o8 => newBlock False o8 h fun b9 h =>
 storeV False 4 (ptrTo b9) v6 h fun v10 h =>
 binB False Tryz.prog .neq 26 true false v7 (Value.int .i64 (0)) h fun v11 h =>
 CondW v11 (
 κ (Value.tuple (Array.mk [(Value.slice none 0 0), v7])) h) (
 JoinR (fun N12 =>
 rs_104_0 b9 a1 a0 N12 h) fun l13 h =>
 loadA False 4 (ptrTo b9) h fun v26 h =>
 CallW Tryz.prog 99 [a0, v26] h fun v27 h =>
 κ (Value.tuple (Array.mk [v27, (Value.int .i64 (0))])) h)

/-- (*latchstring/bucket.Bucket).Abandon -/
theorem rs_104 (a0 a1 : Value) (h : Heap) (κ : Value → Heap → Prop) : BodyW Tryz.prog 104 [a0, a1] h κ = (
 CallW Tryz.prog 113 [a0, a1] h fun v0 h =>
 binB False Tryz.prog .eql 138 true false v0 (Value.pointer none) h fun v1 h =>
 CondW v1 (
 CallW Tryz.prog 114 [a0] h fun v2 h =>
 κ (Value.tuple (Array.mk [(Value.slice none 0 0), v2])) h) (
 rs_104_1 v0 a1 a0 h κ)) := by kernel_rfl

noncomputable def rs_105_0 (v0 : Value) (a1 : Value) (a2 : Value) (a0 : Value) (h : Heap) (κ : Value → Heap → Prop) : Prop :=
 nilB False v0 h fun v3 h =>
 loadA False 4 v3 h fun v4 h =>
 CallW Tryz.prog 148 [v4, a1, a2] h fun v5 h =>
 extractB False 0 v5 h fun v6 h =>
 extractB False 1 v5 h fun v7 h =>
 cellsK False [(Value.int .i64 (0)), (Value.int .i64 (0)), (Value.slice none 0 0), (Value.int .i64 (0))] 51 false fun o8 => newBlock False o8 h fun b9 h =>
 storeV False 4 (ptrTo b9) v6 h fun v10 h =>
 JoinR (fun N11 =>
 binB False Tryz.prog .eql 26 true false v7 (Value.int .i64 (0)) h fun v13 h =>
 CondW v13 (
 loadA False 4 (ptrTo b9) h fun v14 h =>
 CallW Tryz.prog 99 [a0, v14] h fun v15 h =>
 N11 [v7, v13, a0, v14, v15] h) (
 N11 [v7, v13, undef, undef, undef] h)) fun l12 h =>
 κ v7 h

/-- (*latchstring/bucket.Bucket).Hand -/
theorem rs_105 (a0 a1 a2 : Value) (h : Heap) (κ : Value → Heap → Prop) : BodyW Tryz.prog 105 [a0, a1, a2] h κ = (
 CallW Tryz.prog 113 [a0, a1] h fun v0 h =>
 binB False Tryz.prog .eql 138 true false v0 (Value.pointer none) h fun v1 h =>
 CondW v1 (
 CallW Tryz.prog 114 [a0] h fun v2 h =>
 κ v2 h) (
 rs_105_0 v0 a1 a2 a0 h κ)) := by kernel_rfl

/-- (*latchstring/bucket.Bucket).names -/
theorem rs_106 (a0 : Value) (h : Heap) (κ : Value → Heap → Prop) : BodyW Tryz.prog 106 [a0] h κ = (
 nilB False a0 h fun v0 h =>
 fieldAddrB False 2 v0 h fun v1 h =>
 load1 False v1 h fun v2 h =>
 CallW Tryz.prog 150 [v2] h fun v3 h =>
 CallW Tryz.prog 149 [v3, (Value.func (.func 54) (Array.mk []) (Array.mk []))] h fun v4 h =>
 κ v4 h) := by kernel_rfl

/-- cmp.isNaN[int] -/
theorem rs_111 (a0 : Value) (h : Heap) (κ : Value → Heap → Prop) : BodyW Tryz.prog 111 [a0] h κ = (
 binB False Tryz.prog .neq 3 false false a0 a0 h fun v0 h =>
 κ v0 h) := by kernel_rfl

/-- (*latchstring/pool.Pool).Has -/
theorem rs_112 (a0 a1 : Value) (h : Heap) (κ : Value → Heap → Prop) : BodyW Tryz.prog 112 [a0, a1] h κ = (
 binB False Tryz.prog .neq 82 true false a0 (Value.pointer none) h fun v0 h =>
 GuardW (wantV v0 true) (fun K1 =>
 K1 a1 h) h fun v2 h =>
 GuardW (wantV v0 true) (fun K3 =>
 binB False Tryz.prog .geq 3 true false v2 (Value.int .i64 (0)) h K3) h fun v4 h =>
 pickB False v0 v4 (Value.bool false) h fun v5 h =>
 GuardW (wantV v5 true) (fun K6 =>
 K6 a1 h) h fun v7 h =>
 GuardW (wantV v5 true) (fun K8 =>
 K8 a0 h) h fun v9 h =>
 GuardW (wantV v5 true) (fun K10 =>
 nilB False v9 h K10) h fun v11 h =>
 GuardW (wantV v5 true) (fun K12 =>
 fieldAddrB False 1 v11 h K12) h fun v13 h =>
 GuardW (wantV v5 true) (fun K14 =>
 load1 False v13 h K14) h fun v15 h =>
 GuardW (wantV v5 true) (fun K16 =>
 lenSli False v15 h K16) h fun v17 h =>
 GuardW (wantV v5 true) (fun K18 =>
 binB False Tryz.prog .lss 3 false false v7 v17 h K18) h fun v19 h =>
 pickB False v5 v19 (Value.bool false) h fun v20 h =>
 GuardW (wantV v20 true) (fun K21 =>
 K21 a0 h) h fun v22 h =>
 GuardW (wantV v20 true) (fun K23 =>
 nilB False v22 h K23) h fun v24 h =>
 GuardW (wantV v20 true) (fun K25 =>
 fieldAddrB False 1 v24 h K25) h fun v26 h =>
 GuardW (wantV v20 true) (fun K27 =>
 load1 False v26 h K27) h fun v28 h =>
 GuardW (wantV v20 true) (fun K29 =>
 K29 a1 h) h fun v30 h =>
 GuardW (wantV v20 true) (fun K31 =>
 indexAddrS False 1 v28 v30 h K31) h fun v32 h =>
 GuardW (wantV v20 true) (fun K33 =>
 load1 False v32 h K33) h fun v34 h =>
 pickB False v20 v34 (Value.bool false) h fun v35 h =>
 κ v35 h) := by kernel_rfl

noncomputable def rs_113_0 (v4 : Value) (a1 : Value) (N5 : List Value → Heap → Prop) (v7 : Value) (v8 : Value) (l6 : List Value) (h : Heap) (κ : Value → Heap → Prop) : Prop :=
 entryB False v4 h fun v9 h =>
 extractB False 1 v9 h fun v10 h =>
 nilB False v10 h fun v11 h =>
 loadA False 4 v11 h fun v12 h =>
 CallW Tryz.prog 119 [v12, a1] h fun v13 h =>
 extractB False 0 v13 h fun v14 h =>
 extractB False 1 v13 h fun v15 h =>
 cellsK False [(Value.int .i64 (0)), (Value.int .i64 (0)), (Value.int .i64 (0)), (Value.int .i64 (0)), (Value.int .i64 (0))] 54 false fun o16 => newBlock False o16 h fun b17 h =>
 storeV False 5 (ptrTo b17) v14 h fun v18 h =>
 CondW v15 (
 κ v10 h) (
 N5 [v7, v8, v9, v10, v10, v10, v11, v12, a1, v13, v13, v14, v15, (ptrTo b17), v15, v15, (slot l6 16), (slot l6 17)] h)

noncomputable def rs_113_1 (a0 : Value) (a1 : Value) (h : Heap) (κ : Value → Heap → Prop) : Prop :=
 nilB False a0 h fun v1 h =>
 fieldAddrB False 2 v1 h fun v2 h =>
 load1 False v2 h fun v3 h =>
 rangeB False v3 h fun v4 h =>
 LoopR [undef, undef, undef, undef, undef, undef, undef, undef, undef, undef, undef, undef, undef, undef, undef, undef, undef, (Value.pointer none)] h fun l6 h N5 =>
 nextB False And v4 h fun v7 h =>
 extractB False 0 v7 h fun v8 h =>
 CondW v8 (
 rs_113_0 v4 a1 N5 v7 v8 l6 h κ) (
 κ (Value.pointer none) h)

/-- (*latchstring/bucket.Bucket).of -/
theorem rs_113 (a0 a1 : Value) (h : Heap) (κ : Value → Heap → Prop) : BodyW Tryz.prog 113 [a0, a1] h κ = (
 binB False Tryz.prog .eql 89 true false a0 (Value.pointer none) h fun v0 h =>
 CondW v0 (
 κ (Value.pointer none) h) (
 rs_113_1 a0 a1 h κ)) := by kernel_rfl

/-- (*latchstring/bucket.Bucket).none -/
theorem rs_114 (a0 : Value) (h : Heap) (κ : Value → Heap → Prop) : BodyW Tryz.prog 114 [a0] h κ = (
 binB False Tryz.prog .eql 89 true false a0 (Value.pointer none) h fun v0 h =>
 CondW v0 (
 κ (Value.int .i64 (1)) h) (
 κ (Value.int .i64 (5)) h)) := by kernel_rfl

/-- latchstring/queue.Leave -/
theorem rs_115 (a0 a1 : Value) (h : Heap) (κ : Value → Heap → Prop) : BodyW Tryz.prog 115 [a0, a1] h κ = (
 cellsK False (Value.cells a0).toList 51 false fun o0 => newBlock False o0 h fun b1 h =>
 cellsK False [(Value.int .i64 (0)), (Value.int .i64 (0)), (Value.slice none 0 0), (Value.int .i64 (0))] 51 false fun o2 => newBlock False o2 h fun b3 h =>
 loadA False 4 (ptrTo b1) h fun v4 h =>
 CallW Tryz.prog 139 [v4] h fun v5 h =>
 cellsK False [(Value.int .i64 (0)), (Value.int .i64 (0)), (Value.slice none 0 0), (Value.int .i64 (0))] 178 false fun o6 => newBlock False o6 h fun b7 h =>
 storeV False 4 (ptrTo b7) v5 h fun v8 h =>
 loadA False 4 (ptrTo b7) h fun v9 h =>
 CallW Tryz.prog 169 [v9, a1] h fun v10 h =>
 binB False Tryz.prog .lss 3 true false v10 (Value.int .i64 (0)) h fun v11 h =>
 CondW v11 (
 fillB False [] [] [(Value.int .i64 (0)), (Value.int .i64 (0)), (Value.slice none 0 0), (Value.int .i64 (0))] fun cs12 =>
 storeV False 4 (ptrTo b3) (Value.agg (Array.mk cs12)) h fun v13 h =>
 loadA False 4 (ptrTo b3) h fun v14 _ => κ (Value.tuple (Array.mk [v14, (Value.int .i64 (5))])) h) (
 loadA False 4 (ptrTo b7) h fun v15 h =>
 CallW Tryz.prog 170 [v15, a1] h fun v16 h =>
 storeV False 4 (ptrTo b3) v16 h fun v17 h =>
 loadA False 4 (ptrTo b3) h fun v18 _ => κ (Value.tuple (Array.mk [v18, (Value.int .i64 (0))])) h)) := by kernel_rfl

noncomputable def rs_116_0 (a0 : Value) (a1 : Value) (h : Heap) (κ : Value → Heap → Prop) : Prop :=
 nilB False a0 h fun v3 h =>
 fieldAddrB False 1 v3 h fun v4 h =>
 load1 False v4 h fun v5 h =>
 indexAddrS False 1 v5 a1 h fun v6 h =>
 storeV False 1 v6 (Value.bool false) h fun v7 h =>
 nilB False a0 h fun v8 h =>
 fieldAddrB False 0 v8 h fun v9 h =>
 CallW Tryz.prog 95 [(Value.iface 134 v9), (Value.iface 3 a1)] h fun v10 h =>
 κ (Value.int .i64 (0)) h

/-- (*latchstring/pool.Pool).Give -/
theorem rs_116 (a0 a1 : Value) (h : Heap) (κ : Value → Heap → Prop) : BodyW Tryz.prog 116 [a0, a1] h κ = (
 binB False Tryz.prog .eql 82 true false a0 (Value.pointer none) h fun v0 h =>
 CondW v0 (
 κ (Value.int .i64 (1)) h) (
 CallW Tryz.prog 112 [a0, a1] h fun v1 h =>
 unB False .not v1 h fun v2 h =>
 CondW v2 (
 κ (Value.int .i64 (5)) h) (
 rs_116_0 a0 a1 h κ))) := by kernel_rfl

/-- (sort.IntSlice).Len -/
theorem rs_118 (a0 : Value) (h : Heap) (κ : Value → Heap → Prop) : BodyW Tryz.prog 118 [a0] h κ = (
 lenSli False a0 h fun v0 h =>
 κ v0 h) := by kernel_rfl

/-- latchstring/queue.Find -/
theorem rs_119 (a0 a1 : Value) (h : Heap) (κ : Value → Heap → Prop) : BodyW Tryz.prog 119 [a0, a1] h κ = (
 cellsK False (Value.cells a0).toList 51 false fun o0 => newBlock False o0 h fun b1 h =>
 cellsK False [(Value.int .i64 (0)), (Value.int .i64 (0)), (Value.int .i64 (0)), (Value.int .i64 (0)), (Value.int .i64 (0))] 54 false fun o2 => newBlock False o2 h fun b3 h =>
 loadA False 4 (ptrTo b1) h fun v4 h =>
 fillB False [(0, 4)] [v4] [(Value.int .i64 (0)), (Value.int .i64 (0)), (Value.slice none 0 0), (Value.int .i64 (0))] fun cs5 =>
 CallW Tryz.prog 169 [(Value.agg (Array.mk cs5)), a1] h fun v6 h =>
 binB False Tryz.prog .lss 3 true false v6 (Value.int .i64 (0)) h fun v7 h =>
 CondW v7 (
 fillB False [] [] [(Value.int .i64 (0)), (Value.int .i64 (0)), (Value.int .i64 (0)), (Value.int .i64 (0)), (Value.int .i64 (0))] fun cs8 =>
 storeV False 5 (ptrTo b3) (Value.agg (Array.mk cs8)) h fun v9 h =>
 loadA False 5 (ptrTo b3) h fun v10 _ => κ (Value.tuple (Array.mk [v10, (Value.bool false)])) h) (
 fieldAddrB False 2 (ptrTo b1) h fun v11 h =>
 load1 False v11 h fun v12 h =>
 indexAddrS False 5 v12 v6 h fun v13 h =>
 loadA False 5 v13 h fun v14 h =>
 storeV False 5 (ptrTo b3) v14 h fun v15 h =>
 loadA False 5 (ptrTo b3) h fun v16 _ => κ (Value.tuple (Array.mk [v16, (Value.bool true)])) h)) := by kernel_rfl

/-- (*latchstring/bucket.Bucket).Find$1 -/
theorem rs_131 (a0 a1 : Value) (h : Heap) (κ : Value → Heap → Prop) : BodyW Tryz.prog 131 [a0, a1] h κ = (
 cellsK False (Value.cells a0).toList 54 false fun o0 => newBlock False o0 h fun b1 h =>
 fieldAddrB False 1 (ptrTo b1) h fun v2 h =>
 load1 False v2 h fun v3 h =>
 load1 False a1 h fun v4 h =>
 binB False Tryz.prog .eql 3 false false v3 v4 h fun v5 h =>
 κ v5 h) := by kernel_rfl

noncomputable def rs_134_0 (l1 : List Value) (a0 : Value) (N0 : List Value → Heap → Prop) (h : Heap) (κ : Value → Heap → Prop) : Prop :=
 binB False Tryz.prog .sub 3 true false (slot l1 19) (Value.int .i64 (1)) h fun v2 h =>
 binB False Tryz.prog .quo 3 true false v2 (Value.int .i64 (2)) h fun v3 h =>
 binB False Tryz.prog .eql 3 false false v3 (slot l1 19) h fun v4 h =>
 GuardW (wantV v4 false) (fun K5 =>
 K5 a0 h) h fun v6 h =>
 GuardW (wantV v4 false) (fun K7 =>
 K7 (slot l1 19) h) h fun v8 h =>
 GuardW (wantV v4 false) (fun K9 =>
 K9 v3 h) h fun v10 h =>
 GuardW (wantV v4 false) (fun K11 =>
 CallI Tryz.prog "Less" v6 [v8, v10] h K11) h fun v12 h =>
 GuardW (wantV v4 false) (fun K13 =>
 unB False .not v12 h K13) h fun v14 h =>
 pickB False v4 (Value.bool true) v14 h fun v15 h =>
 CondW v15 (
 κ (Value.tuple (Array.mk [])) h) (
 CallI Tryz.prog "Swap" a0 [v3, (slot l1 19)] h fun v16 h =>
 N0 [(slot l1 19), v2, v3, v3, v3, (slot l1 19), v4, v4, v6, v8, v10, v12, v14, v15, a0, v3, (slot l1 19), v16, v3, v3] h)

/-- container/heap.up -/
theorem rs_134 (a0 a1 : Value) (h : Heap) (κ : Value → Heap → Prop) : BodyW Tryz.prog 134 [a0, a1] h κ = (
 LoopR [undef, undef, undef, undef, undef, undef, undef, undef, undef, undef, undef, undef, undef, undef, undef, undef, undef, undef, undef, a1] h fun l1 h N0 =>
 rs_134_0 l1 a0 N0 h κ) := by kernel_rfl

/-- container/heap.Pop -/
theorem rs_135 (a0 : Value) (h : Heap) (κ : Value → Heap → Prop) : BodyW Tryz.prog 135 [a0] h κ = (
 CallI Tryz.prog "Len" a0 [] h fun v0 h =>
 binB False Tryz.prog .sub 3 true false v0 (Value.int .i64 (1)) h fun v1 h =>
 CallI Tryz.prog "Swap" a0 [(Value.int .i64 (0)), v1] h fun v2 h =>
 CallW Tryz.prog 184 [a0, (Value.int .i64 (0)), v1] h fun v3 h =>
 CallI Tryz.prog "Pop" a0 [] h fun v4 h =>
 κ v4 h) := by kernel_rfl

/-- latchstring/queue.asked -/
theorem rs_136 (a0 : Value) (h : Heap) (κ : Value → Heap → Prop) : BodyW Tryz.prog 136 [a0] h κ = (
 binB False Tryz.prog .neq 33 true false a0 (Value.int .i64 (0)) h fun v0 h =>
 GuardW (wantV v0 true) (fun K1 =>
 K1 a0 h) h fun v2 h =>
 GuardW (wantV v0 true) (fun K3 =>
 CallW Tryz.prog 96 [v2] h K3) h fun v4 h =>
 pickB False v0 v4 (Value.bool false) h fun v5 h =>
 κ v5 h) := by kernel_rfl

/-- latchstring/queue.Ask$1 -/
theorem rs_138 (a0 a1 a2 : Value) (h : Heap) (κ : Value → Heap → Prop) : BodyW Tryz.prog 138 [a0, a1, a2] h κ = (
 cellsK False (Value.cells a0).toList 54 false fun o0 => newBlock False o0 h fun b1 h =>
 fieldAddrB False 0 (ptrTo b1) h fun v2 h =>
 load1 False v2 h fun v3 h =>
 load1 False a1 h fun v4 h =>
 binB False Tryz.prog .eql 3 false false v3 v4 h fun v5 h =>
 GuardW (wantV v5 false) (fun K6 =>
 fieldAddrB False 1 (ptrTo b1) h K6) h fun v7 h =>
 GuardW (wantV v5 false) (fun K8 =>
 load1 False v7 h K8) h fun v9 h =>
 GuardW (wantV v5 false) (fun K10 =>
 load1 False a2 h K10) h fun v11 h =>
 GuardW (wantV v5 false) (fun K12 =>
 binB False Tryz.prog .eql 3 false false v9 v11 h K12) h fun v13 h =>
 pickB False v5 (Value.bool true) v13 h fun v14 h =>
 κ v14 h) := by kernel_rfl

/-- latchstring/queue.own -/
theorem rs_139 (a0 : Value) (h : Heap) (κ : Value → Heap → Prop) : BodyW Tryz.prog 139 [a0] h κ = (
 cellsK False (Value.cells a0).toList 51 false fun o0 => newBlock False o0 h fun b1 h =>
 cellsK False [(Value.int .i64 (0)), (Value.int .i64 (0)), (Value.slice none 0 0), (Value.int .i64 (0))] 178 false fun o2 => newBlock False o2 h fun b3 h =>
 fieldAddrB False 2 (ptrTo b1) h fun v4 h =>
 load1 False v4 h fun v5 h =>
 CallW Tryz.prog 107 [v5] h fun v6 h =>
 fieldAddrB False 2 (ptrTo b1) h fun v7 h =>
 storeV False 1 v7 v6 h fun v8 h =>
 loadA False 4 (ptrTo b1) h fun v9 h =>
 fillB False [(0, 4)] [v9] [(Value.int .i64 (0)), (Value.int .i64 (0)), (Value.slice none 0 0), (Value.int .i64 (0))] fun cs10 =>
 storeV False 4 (ptrTo b3) (Value.agg (Array.mk cs10)) h fun v11 h =>
 loadA False 4 (ptrTo b3) h fun v12 _ => κ v12 h) := by kernel_rfl

noncomputable def rs_140_0 (v4 : Value) (l7 : List Value) (b1 : Nat) (N9 : List Value → Heap → Prop) (h : Heap) : Prop :=
 indexAddrS False 5 v4 (slot l7 27) h fun v11 h =>
 loadA False 5 v11 h fun v12 h =>
 cellsK False [(Value.int .i64 (0)), (Value.int .i64 (0)), (Value.int .i64 (0)), (Value.int .i64 (0)), (Value.int .i64 (0))] 54 false fun o13 => newBlock False o13 h fun b14 h =>
 storeV False 5 (ptrTo b14) v12 h fun v15 h =>
 RdK (loadA none 5 (ptrTo b14) h fun v _ => some v) h fun v16 h =>
 CallW Tryz.prog 185 [v16] h fun v17 h =>
 RdK (some v17) h fun v18 h =>
 GuardW (wantV v18 true) (fun K19 =>
 RdK (some (slot l7 25)) h K19) h fun v20 h =>
 GuardW (wantV v18 true) (fun K21 =>
 RdK (binB none Tryz.prog .lss 3 true false v20 (Value.int .i64 (0)) h fun v _ => some v) h K21) h fun v22 h =>
 GuardW (wantV v18 true) (fun K23 =>
 RdK (some v22) h K23) h fun v24 h =>
 GuardW (wantV v24 false) (fun K25 =>
 RdK (fieldAddrB none 4 (ptrTo b14) h fun v _ => some v) h K25) h fun v26 h =>
 GuardW (wantV v24 false) (fun K27 =>
 RdK (load1 none v26 h fun v _ => some v) h K27) h fun v28 h =>
 GuardW (wantV v24 false) (fun K29 =>
 RdK (fieldAddrB none 0 (ptrTo b1) h fun v _ => some v) h K29) h fun v30 h =>
 GuardW (wantV v24 false) (fun K31 =>
 RdK (fieldAddrB none 2 v30 h fun v _ => some v) h K31) h fun v32 h =>
 GuardW (wantV v24 false) (fun K33 =>
 RdK (load1 none v32 h fun v _ => some v) h K33) h fun v34 h =>
 GuardW (wantV v24 false) (fun K35 =>
 RdK (some (slot l7 25)) h K35) h fun v36 h =>
 GuardW (wantV v24 false) (fun K37 =>
 RdK (indexAddrS none 5 v34 v36 h fun v _ => some v) h K37) h fun v38 h =>
 GuardW (wantV v24 false) (fun K39 =>
 RdK (fieldAddrB none 4 v38 h fun v _ => some v) h K39) h fun v40 h =>
 GuardW (wantV v24 false) (fun K41 =>
 RdK (load1 none v40 h fun v _ => some v) h K41) h fun v42 h =>
 GuardW (wantV v24 false) (fun K43 =>
 RdK (binB none Tryz.prog .lss 3 false false v28 v42 h fun v _ => some v) h K43) h fun v44 h =>
 GuardW (wantV v18 true) (fun K45 =>
 RdK (pickB none v24 (Value.bool true) v44 h fun v _ => some v) h K45) h fun v46 h =>
 RdK (pickB none v18 v46 (Value.bool false) h fun v _ => some v) h fun v47 h =>
 CondW v47 (
 N9 [(slot l7 27), v11, v12, (ptrTo b14), (slot l7 27), v16, v17, v18, v20, v22, v24, v26, v28, v30, v32, v34, v36, v38, v40, v42, v44, v46, v47, (slot l7 27), (slot l7 27)] h) (
 N9 [(slot l7 27), v11, v12, (ptrTo b14), (slot l7 27), v16, v17, v18, v20, v22, v24, v26, v28, v30, v32, v34, v36, v38, v40, v42, v44, v46, v47, (slot l7 24), (slot l7 25)] h)

noncomputable def rs_140_1 (l7 : List Value) (b1 : Nat) (N49 : List Value → Heap → Prop) (h : Heap) : Prop :=
 binB False Tryz.prog .lss 3 true false (slot l7 25) (Value.int .i64 (0)) h fun v51 h =>
 CondW v51 (
 fieldAddrB False 0 (ptrTo b1) h fun v52 h =>
 fieldAddrB False 2 v52 h fun v53 h =>
 load1 False v53 h fun v54 h =>
 CallW Tryz.prog 130 [v54, (Value.func (.func 186) (Array.mk []) (Array.mk []))] h fun v55 h =>
 N49 [(slot l7 25), v51, v52, v53, v54, v55, v55] h) (
 N49 [(slot l7 25), v51, undef, undef, undef, undef, (slot l7 25)] h)

noncomputable def rs_140_2 (l7 : List Value) (v5 : Value) (v4 : Value) (b1 : Nat) (N6 : List Value → Heap → Prop) (h : Heap) (κ : Value → Heap → Prop) : Prop :=
 binB False Tryz.prog .lss 3 false false (slot l7 27) v5 h fun v8 h =>
 CondW v8 (
 JoinR (fun N9 =>
 rs_140_0 v4 l7 b1 N9 h) fun l10 h =>
 binB False Tryz.prog .add 3 true false (slot l7 27) (Value.int .i64 (1)) h fun v48 h =>
 N6 [v8, (slot l10 0), (slot l10 1), (slot l10 2), (slot l10 3), (slot l10 4), (slot l10 5), (slot l10 6), (slot l10 7), (slot l10 8), (slot l10 9), (slot l10 10), (slot l10 11), (slot l10 12), (slot l10 13), (slot l10 14), (slot l10 15), (slot l10 16), (slot l10 17), (slot l10 18), (slot l10 19), (slot l10 20), (slot l10 21), (slot l10 22), (slot l10 23), (slot l10 24), v48, v48] h) (
 JoinR (fun N49 =>
 rs_140_1 l7 b1 N49 h) fun l50 h =>
 κ (slot l50 6) h)

/-- (latchstring/queue.view).first -/
theorem rs_140 (a0 : Value) (h : Heap) (κ : Value → Heap → Prop) : BodyW Tryz.prog 140 [a0] h κ = (
 cellsK False (Value.cells a0).toList 178 false fun o0 => newBlock False o0 h fun b1 h =>
 fieldAddrB False 0 (ptrTo b1) h fun v2 h =>
 fieldAddrB False 2 v2 h fun v3 h =>
 load1 False v3 h fun v4 h =>
 lenSli False v4 h fun v5 h =>
 LoopR [undef, undef, undef, undef, undef, undef, undef, undef, undef, undef, undef, undef, undef, undef, undef, undef, undef, undef, undef, undef, undef, undef, undef, undef, undef, (Value.int .i64 (-1)), undef, (Value.int .i64 (0))] h fun l7 h N6 =>
 rs_140_2 l7 v5 v4 b1 N6 h κ) := by kernel_rfl

/-- (latchstring/queue.view).fits -/
theorem rs_141 (a0 a1 : Value) (h : Heap) (κ : Value → Heap → Prop) : BodyW Tryz.prog 141 [a0, a1] h κ = (
 cellsK False (Value.cells a0).toList 178 false fun o0 => newBlock False o0 h fun b1 h =>
 cellsK False (Value.cells a1).toList 54 false fun o2 => newBlock False o2 h fun b3 h =>
 fieldAddrB False 0 (ptrTo b1) h fun v4 h =>
 fieldAddrB False 2 v4 h fun v5 h =>
 load1 False v5 h fun v6 h =>
 CallW Tryz.prog 137 [v6, (Value.func (.func 188) (Array.mk []) (Array.mk [(ptrTo b3)]))] h fun v7 h =>
 unB False .not v7 h fun v8 h =>
 κ v8 h) := by kernel_rfl

noncomputable def rs_142_0 (b7 : Nat) (v13 : Value) (l11 : List Value) (N10 : List Value → Heap → Prop) (v12 : Value) (v14 : Value) (v16 : Value) (v18 : Value) (v20 : Value) (v22 : Value) (v24 : Value) (v26 : Value) (v28 : Value) (v30 : Value) (v32 : Value) (v33 : Value) (h : Heap) : Prop :=
 RdK (fieldAddrB none 0 (ptrTo b7) h fun v _ => some v) h fun v38 h =>
 RdK (fieldAddrB none 2 v38 h fun v _ => some v) h fun v39 h =>
 RdK (load1 none v39 h fun v _ => some v) h fun v40 h =>
 RdK (some v13) h fun v41 h =>
 RdK (fieldAddrB none 0 (ptrTo b7) h fun v _ => some v) h fun v42 h =>
 RdK (fieldAddrB none 2 v42 h fun v _ => some v) h fun v43 h =>
 RdK (load1 none v43 h fun v _ => some v) h fun v44 h =>
 RdK (some v13) h fun v45 h =>
 RdK (fieldAddrB none 0 (ptrTo b7) h fun v _ => some v) h fun v46 h =>
 RdK (fieldAddrB none 2 v46 h fun v _ => some v) h fun v47 h =>
 RdK (load1 none v47 h fun v _ => some v) h fun v48 h =>
 RdK (some v13) h fun v49 h =>
 RdK (indexAddrS none 5 v48 v49 h fun v _ => some v) h fun v50 h =>
 RdK (fieldAddrB none 3 v50 h fun v _ => some v) h fun v51 h =>
 RdK (load1 none v51 h fun v _ => some v) h fun v52 h =>
 RdK (indexAddrS none 5 v40 v41 h fun v _ => some v) h fun v53 h =>
 RdK (fieldAddrB none 2 v53 h fun v _ => some v) h fun v54 h =>
 storeV False 1 v54 v52 h fun v55 h =>
 SameK ((reV (fieldAddrB none 0 (ptrTo b7) h fun v _ => some v) v42) && ((reV (fieldAddrB none 2 v42 h fun v _ => some v) v43) && ((reV (load1 none v43 h fun v _ => some v) v44) && ((reV (some v13) v45) && true)))) (RdK (indexAddrS none 5 v44 v45 h fun v _ => some v) h fun v56 h =>
 RdK (fieldAddrB none 4 v56 h fun v _ => some v) h fun v57 h =>
 storeV False 1 v57 (Value.int .i64 (0)) h fun v58 h =>
 fieldAddrB False 0 (ptrTo b7) h fun v59 h =>
 fieldAddrB False 2 v59 h fun v60 h =>
 load1 False v60 h fun v61 h =>
 indexAddrS False 5 v61 v13 h fun v62 h =>
 fieldAddrB False 0 v62 h fun v63 h =>
 load1 False v63 h fun v64 h =>
 fillB False [(0, 1)] [v64] (repeatL [(Value.int .i64 (0))] 1) fun cs67 => cellsK False cs67 3 false fun o65 => newBlock False o65 h fun b66 h =>
 appendB False 3 1 [(Value.int .i64 (0))] false (slot l11 49) (sliceTo 1 1 b66) h fun v68 h =>
 N10 [v12, v13, v13, v13, v14, v14, v16, v18, v20, v22, v24, v26, v28, v30, v32, v33, (slot l11 16), (slot l11 17), (slot l11 18), (slot l11 19), v38, v39, v40, v41, v42, v43, v44, v45, v46, v47, v48, v49, v50, v51, v52, v53, v54, v56, v57, (slot l11 49), v59, v60, v61, v13, v62, v63, v64, (sliceTo 1 1 b66), v68, v68] h)

noncomputable def rs_142_1 (b7 : Nat) (v9 : Value) (b3 : Nat) (l11 : List Value) (N10 : List Value → Heap → Prop) (h : Heap) (κ : Value → Heap → Prop) : Prop :=
 loadA False 4 (ptrTo b7) h fun v12 h =>
 CallW Tryz.prog 140 [v12] h fun v13 h =>
 binB False Tryz.prog .lss 3 true false v13 (Value.int .i64 (0)) h fun v14 h =>
 GuardW (wantV v14 false) (fun K15 =>
 K15 (Value.func (.func 141) (Array.mk [v9]) (Array.mk [])) h) h fun v16 h =>
 GuardW (wantV v14 false) (fun K17 =>
 fieldAddrB False 0 (ptrTo b7) h K17) h fun v18 h =>
 GuardW (wantV v14 false) (fun K19 =>
 fieldAddrB False 2 v18 h K19) h fun v20 h =>
 GuardW (wantV v14 false) (fun K21 =>
 load1 False v20 h K21) h fun v22 h =>
 GuardW (wantV v14 false) (fun K23 =>
 K23 v13 h) h fun v24 h =>
 GuardW (wantV v14 false) (fun K25 =>
 indexAddrS False 5 v22 v24 h K25) h fun v26 h =>
 GuardW (wantV v14 false) (fun K27 =>
 loadA False 5 v26 h K27) h fun v28 h =>
 GuardW (wantV v14 false) (fun K29 =>
 CallV Tryz.prog v16 [v28] h K29) h fun v30 h =>
 GuardW (wantV v14 false) (fun K31 =>
 unB False .not v30 h K31) h fun v32 h =>
 pickB False v14 (Value.bool true) v32 h fun v33 h =>
 CondW v33 (
 fieldAddrB False 0 (ptrTo b7) h fun v34 h =>
 loadA False 4 v34 h fun v35 h =>
 storeV False 4 (ptrTo b3) v35 h fun v36 h =>
 loadA False 4 (ptrTo b3) h fun v37 _ => κ (Value.tuple (Array.mk [v37, (slot l11 49)])) h) (
 rs_142_0 b7 v13 l11 N10 v12 v14 v16 v18 v20 v22 v24 v26 v28 v30 v32 v33 h)

/-- latchstring/queue.Scan -/
theorem rs_142 (a0 : Value) (h : Heap) (κ : Value → Heap → Prop) : BodyW Tryz.prog 142 [a0] h κ = (
 cellsK False (Value.cells a0).toList 51 false fun o0 => newBlock False o0 h fun b1 h =>
 cellsK False [(Value.int .i64 (0)), (Value.int .i64 (0)), (Value.slice none 0 0), (Value.int .i64 (0))] 51 false fun o2 => newBlock False o2 h fun b3 h =>
 loadA False 4 (ptrTo b1) h fun v4 h =>
 CallW Tryz.prog 139 [v4] h fun v5 h =>
 cellsK False [(Value.int .i64 (0)), (Value.int .i64 (0)), (Value.slice none 0 0), (Value.int .i64 (0))] 178 false fun o6 => newBlock False o6 h fun b7 h =>
 storeV False 4 (ptrTo b7) v5 h fun v8 h =>
 loadA False 4 (ptrTo b7) h fun v9 h =>
 LoopR [undef, undef, undef, undef, undef, undef, undef, undef, undef, undef, undef, undef, undef, undef, undef, undef, undef, undef, undef, (Value.slice none 0 0), undef, undef, undef, undef, undef, undef, undef, undef, undef, undef, undef, undef, undef, undef, undef, undef, undef, undef, undef, undef, undef, undef, undef, undef, undef, undef, undef, undef, undef, (Value.slice none 0 0)] h fun l11 h N10 =>
 rs_142_1 b7 v9 b3 l11 N10 h κ) := by kernel_rfl

noncomputable def rs_143_0 (b1 : Nat) (h : Heap) (κ : Value → Heap → Prop) : Prop :=
 fieldAddrB False 0 (ptrTo b1) h fun v15 h =>
 load1 False v15 h fun v16 h =>
 CallW Tryz.prog 191 [v16] h fun v17 h =>
 GuardW (wantV v17 true) (fun K18 =>
 fieldAddrB False 1 (ptrTo b1) h K18) h fun v19 h =>
 GuardW (wantV v17 true) (fun K20 =>
 load1 False v19 h K20) h fun v21 h =>
 GuardW (wantV v17 true) (fun K22 =>
 CallW Tryz.prog 191 [v21] h K22) h fun v23 h =>
 pickB False v17 v23 (Value.bool false) h fun v24 h =>
 CondW v24 (
 κ (Value.int .i64 (2)) h) (
 κ (Value.int .i64 (-1)) h)

noncomputable def rs_143_1 (b1 : Nat) (h : Heap) (κ : Value → Heap → Prop) : Prop :=
 fieldAddrB False 0 (ptrTo b1) h fun v5 h =>
 load1 False v5 h fun v6 h =>
 CallW Tryz.prog 191 [v6] h fun v7 h =>
 GuardW (wantV v7 true) (fun K8 =>
 fieldAddrB False 1 (ptrTo b1) h K8) h fun v9 h =>
 GuardW (wantV v7 true) (fun K10 =>
 load1 False v9 h K10) h fun v11 h =>
 GuardW (wantV v7 true) (fun K12 =>
 binB False Tryz.prog .eql 3 true false v11 (Value.int .i64 (-1)) h K12) h fun v13 h =>
 pickB False v7 v13 (Value.bool false) h fun v14 h =>
 CondW v14 (
 κ (Value.int .i64 (1)) h) (
 rs_143_0 b1 h κ)

/-- latchstring/name.Level -/
theorem rs_143 (a0 : Value) (h : Heap) (κ : Value → Heap → Prop) : BodyW Tryz.prog 143 [a0] h κ = (
 cellsK False (Value.cells a0).toList 24 false fun o0 => newBlock False o0 h fun b1 h =>
 RdK (loadA none 2 (ptrTo b1) h fun v _ => some v) h fun v2 h =>
 CallW Tryz.prog 190 [] h fun v3 h =>
 SameK ((reV (loadA none 2 (ptrTo b1) h fun v _ => some v) v2) && true) (RdK (binB none Tryz.prog .eql 24 false false v2 v3 h fun v _ => some v) h fun v4 h =>
 CondW v4 (
 κ (Value.int .i64 (0)) h) (
 rs_143_1 b1 h κ))) := by kernel_rfl

noncomputable def rs_144_0 (v0 : Value) (l3 : List Value) (N2 : List Value → Heap → Prop) (v4 : Value) (h : Heap) : Prop :=
 indexAddrS False 1 v0 (slot l3 12) h fun v5 h =>
 load1 False v5 h fun v6 h =>
 convI False .u32 v6 h fun v7 h =>
 binB False Tryz.prog .xor 146 false false (slot l3 10) v7 h fun v8 h =>
 binB False Tryz.prog .mul 146 true false v8 (Value.int .u32 (16777619)) h fun v9 h =>
 binB False Tryz.prog .add 3 true false (slot l3 12) (Value.int .i64 (1)) h fun v10 h =>
 N2 [v4, v5, v6, v6, (slot l3 10), v6, v7, v8, v8, v9, v9, v10, v10] h

/-- latchstring/stripe.Sum -/
theorem rs_144 (a0 : Value) (h : Heap) (κ : Value → Heap → Prop) : BodyW Tryz.prog 144 [a0] h κ = (
 strBytes False 5 a0 h fun v0 h =>
 lenSli False v0 h fun v1 h =>
 LoopR [undef, undef, undef, undef, undef, undef, undef, undef, undef, undef, (Value.int .u32 (2166136261)), undef, (Value.int .i64 (0))] h fun l3 h N2 =>
 binB False Tryz.prog .lss 3 false false (slot l3 12) v1 h fun v4 h =>
 CondW v4 (
 rs_144_0 v0 l3 N2 v4 h) (
 κ (slot l3 10) h)) := by kernel_rfl

noncomputable def rs_145_0 (b1 : Nat) (h : Heap) (κ : Value → Heap → Prop) : Prop :=
 RdK (fieldAddrB none 0 (ptrTo b1) h fun v _ => some v) h fun v11 h =>
 RdK (load1 none v11 h fun v _ => some v) h fun v12 h =>
 RdK (fieldAddrB none 1 (ptrTo b1) h fun v _ => some v) h fun v13 h =>
 RdK (load1 none v13 h fun v _ => some v) h fun v14 h =>
 CallW Tryz.prog 192 [v12] h fun v15 h =>
 SameK ((reV (fieldAddrB none 1 (ptrTo b1) h fun v _ => some v) v13) && ((reV (load1 none v13 h fun v _ => some v) v14) && true)) (RdK (binB none Tryz.prog .add 9 true false (Value.string (ByteArray.mk (Array.mk [116]))) v15 h fun v _ => some v) h fun v16 h =>
 RdK (binB none Tryz.prog .add 9 true false v16 (Value.string (ByteArray.mk (Array.mk [46, 114]))) h fun v _ => some v) h fun v17 h =>
 CallW Tryz.prog 192 [v14] h fun v18 h =>
 SameK ((reV (binB none Tryz.prog .add 9 true false (Value.string (ByteArray.mk (Array.mk [116]))) v15 h fun v _ => some v) v16) && ((reV (binB none Tryz.prog .add 9 true false v16 (Value.string (ByteArray.mk (Array.mk [46, 114]))) h fun v _ => some v) v17) && true)) (RdK (binB none Tryz.prog .add 9 false false v17 v18 h fun v _ => some v) h fun v19 h =>
 κ v19 h))

noncomputable def rs_145_1 (v3 : Value) (b1 : Nat) (h : Heap) (κ : Value → Heap → Prop) : Prop :=
 binB False Tryz.prog .eql 3 true false v3 (Value.int .i64 (1)) h fun v5 h =>
 CondW v5 (
 fieldAddrB False 0 (ptrTo b1) h fun v6 h =>
 load1 False v6 h fun v7 h =>
 CallW Tryz.prog 192 [v7] h fun v8 h =>
 binB False Tryz.prog .add 9 true false (Value.string (ByteArray.mk (Array.mk [116]))) v8 h fun v9 h =>
 κ v9 h) (
 binB False Tryz.prog .eql 3 true false v3 (Value.int .i64 (2)) h fun v10 h =>
 CondW v10 (
 rs_145_0 b1 h κ) (
 κ (Value.string (ByteArray.mk (Array.mk [63]))) h))

/-- latchstring/name.Text -/
theorem rs_145 (a0 : Value) (h : Heap) (κ : Value → Heap → Prop) : BodyW Tryz.prog 145 [a0] h κ = (
 cellsK False (Value.cells a0).toList 24 false fun o0 => newBlock False o0 h fun b1 h =>
 loadA False 2 (ptrTo b1) h fun v2 h =>
 CallW Tryz.prog 143 [v2] h fun v3 h =>
 binB False Tryz.prog .eql 3 true false v3 (Value.int .i64 (0)) h fun v4 h =>
 CondW v4 (
 κ (Value.string (ByteArray.mk (Array.mk [100, 98]))) h) (
 rs_145_1 v3 b1 h κ)) := by kernel_rfl

noncomputable def rs_146_0 (v32 : Value) (N75 : List Value → Heap → Prop) (v74 : Value) (h : Heap) : Prop :=
 nilB False v32 h fun v77 h =>
 fieldAddrB False 3 v77 h fun v78 h =>
 load1 False v78 h fun v79 h =>
 nilB False v32 h fun v80 h =>
 fieldAddrB False 2 v80 h fun v81 h =>
 storeV False 1 v81 v79 h fun v82 h =>
 N75 [v74, v32, v32, v77, v78, v79, v80, v81, undef, undef, undef, undef, undef, undef, undef, undef, undef, undef, undef, undef] h

noncomputable def rs_146_1 (b12 : Nat) (v32 : Value) (N75 : List Value → Heap → Prop) (v74 : Value) (h : Heap) : Prop :=
 fieldAddrB False 0 (ptrTo b12) h fun v83 h =>
 fieldAddrB False 3 v83 h fun v84 h =>
 load1 False v84 h fun v85 h =>
 binB False Tryz.prog .add 3 true false v85 (Value.int .i64 (1)) h fun v86 h =>
 fieldAddrB False 0 (ptrTo b12) h fun v87 h =>
 fieldAddrB False 3 v87 h fun v88 h =>
 storeV False 1 v88 v86 h fun v89 h =>
 fieldAddrB False 0 (ptrTo b12) h fun v90 h =>
 fieldAddrB False 3 v90 h fun v91 h =>
 load1 False v91 h fun v92 h =>
 nilB False v32 h fun v93 h =>
 fieldAddrB False 4 v93 h fun v94 h =>
 storeV False 1 v94 v92 h fun v95 h =>
 N75 [v74, undef, undef, undef, undef, undef, undef, undef, v83, v84, v85, v86, v87, v88, v32, v90, v91, v92, v93, v94] h

noncomputable def rs_146_2 (b12 : Nat) (v15 : Value) (a2 : Value) (b3 : Nat) (h : Heap) (κ : Value → Heap → Prop) : Prop :=
 fieldAddrB False 0 (ptrTo b12) h fun v29 h =>
 fieldAddrB False 2 v29 h fun v30 h =>
 load1 False v30 h fun v31 h =>
 indexAddrS False 5 v31 v15 h fun v32 h =>
 nilB False v32 h fun v33 h =>
 fieldAddrB False 2 v33 h fun v34 h =>
 load1 False v34 h fun v35 h =>
 CallW Tryz.prog 194 [v35, a2] h fun v36 h =>
 nilB False v32 h fun v37 h =>
 fieldAddrB False 3 v37 h fun v38 h =>
 storeV False 1 v38 v36 h fun v39 h =>
 RdK (some v32) h fun v40 h =>
 RdK (nilB none v40 h fun v _ => some v) h fun v41 h =>
 RdK (fieldAddrB none 3 v41 h fun v _ => some v) h fun v42 h =>
 RdK (load1 none v42 h fun v _ => some v) h fun v43 h =>
 RdK (some v32) h fun v44 h =>
 RdK (nilB none v44 h fun v _ => some v) h fun v45 h =>
 RdK (fieldAddrB none 2 v45 h fun v _ => some v) h fun v46 h =>
 RdK (load1 none v46 h fun v _ => some v) h fun v47 h =>
 RdK (binB none Tryz.prog .eql 33 false false v43 v47 h fun v _ => some v) h fun v48 h =>
 RdK (some v48) h fun v49 h =>
 GuardW (wantV v49 false) (fun K50 =>
 RdK (loadA none 4 (ptrTo b12) h fun v _ => some v) h K50) h fun v51 h =>
 GuardW (wantV v49 false) (fun K52 =>
 RdK (some v32) h K52) h fun v53 h =>
 GuardW (wantV v49 false) (fun K54 =>
 RdK (nilB none v53 h fun v _ => some v) h K54) h fun v55 h =>
 GuardW (wantV v49 false) (fun K56 =>
 RdK (loadA none 5 v55 h fun v _ => some v) h K56) h fun v57 h =>
 GuardW (wantV v49 false) (fun K58 =>
 CallW Tryz.prog 141 [v51, v57] h K58) h fun v59 h =>
 GuardW (wantV v49 false) (fun K60 =>
 RdK (some v59) h K60) h fun v61 h =>
 GuardW (wantV v61 true) (fun K62 =>
 RdK (fieldAddrB none 0 (ptrTo b12) h fun v _ => some v) h K62) h fun v63 h =>
 GuardW (wantV v61 true) (fun K64 =>
 RdK (fieldAddrB none 2 v63 h fun v _ => some v) h K64) h fun v65 h =>
 GuardW (wantV v61 true) (fun K66 =>
 RdK (load1 none v65 h fun v _ => some v) h K66) h fun v67 h =>
 GuardW (wantV v61 true) (fun K68 =>
 CallW Tryz.prog 137 [v67, (Value.func (.func 185) (Array.mk []) (Array.mk []))] h K68) h fun v69 h =>
 GuardW (wantV v61 true) (fun K70 =>
 RdK (unB none .not v69 h fun v _ => some v) h K70) h fun v71 h =>
 GuardW (wantV v49 false) (fun K72 =>
 RdK (pickB none v61 v71 (Value.bool false) h fun v _ => some v) h K72) h fun v73 h =>
 RdK (pickB none v49 (Value.bool true) v73 h fun v _ => some v) h fun v74 h =>
 JoinR (fun N75 =>
 CondW v74 (
 rs_146_0 v32 N75 v74 h) (
 rs_146_1 b12 v32 N75 v74 h)) fun l76 h =>
 fieldAddrB False 0 (ptrTo b12) h fun v96 h =>
 loadA False 4 v96 h fun v97 h =>
 storeV False 4 (ptrTo b3) v97 h fun v98 h =>
 loadA False 4 (ptrTo b3) h fun v99 _ => κ (Value.tuple (Array.mk [v99, v74, (Value.int .i64 (0))])) h

noncomputable def rs_146_3 (b12 : Nat) (v15 : Value) (b3 : Nat) (a2 : Value) (h : Heap) (κ : Value → Heap → Prop) : Prop :=
 fieldAddrB False 0 (ptrTo b12) h fun v20 h =>
 fieldAddrB False 2 v20 h fun v21 h =>
 load1 False v21 h fun v22 h =>
 indexAddrS False 5 v22 v15 h fun v23 h =>
 loadA False 5 v23 h fun v24 h =>
 CallW Tryz.prog 193 [v24] h fun v25 h =>
 CondW v25 (
 fillB False [] [] [(Value.int .i64 (0)), (Value.int .i64 (0)), (Value.slice none 0 0), (Value.int .i64 (0))] fun cs26 =>
 storeV False 4 (ptrTo b3) (Value.agg (Array.mk cs26)) h fun v27 h =>
 loadA False 4 (ptrTo b3) h fun v28 _ => κ (Value.tuple (Array.mk [v28, (Value.bool false), (Value.int .i64 (7))])) h) (
 rs_146_2 b12 v15 a2 b3 h κ)

noncomputable def rs_146_4 (b1 : Nat) (a1 : Value) (b3 : Nat) (a2 : Value) (h : Heap) (κ : Value → Heap → Prop) : Prop :=
 loadA False 4 (ptrTo b1) h fun v9 h =>
 CallW Tryz.prog 139 [v9] h fun v10 h =>
 cellsK False [(Value.int .i64 (0)), (Value.int .i64 (0)), (Value.slice none 0 0), (Value.int .i64 (0))] 178 false fun o11 => newBlock False o11 h fun b12 h =>
 storeV False 4 (ptrTo b12) v10 h fun v13 h =>
 loadA False 4 (ptrTo b12) h fun v14 h =>
 CallW Tryz.prog 169 [v14, a1] h fun v15 h =>
 binB False Tryz.prog .lss 3 true false v15 (Value.int .i64 (0)) h fun v16 h =>
 CondW v16 (
 fillB False [] [] [(Value.int .i64 (0)), (Value.int .i64 (0)), (Value.slice none 0 0), (Value.int .i64 (0))] fun cs17 =>
 storeV False 4 (ptrTo b3) (Value.agg (Array.mk cs17)) h fun v18 h =>
 loadA False 4 (ptrTo b3) h fun v19 _ => κ (Value.tuple (Array.mk [v19, (Value.bool false), (Value.int .i64 (5))])) h) (
 rs_146_3 b12 v15 b3 a2 h κ)

/-- latchstring/queue.Upgrade -/
theorem rs_146 (a0 a1 a2 : Value) (h : Heap) (κ : Value → Heap → Prop) : BodyW Tryz.prog 146 [a0, a1, a2] h κ = (
 cellsK False (Value.cells a0).toList 51 false fun o0 => newBlock False o0 h fun b1 h =>
 cellsK False [(Value.int .i64 (0)), (Value.int .i64 (0)), (Value.slice none 0 0), (Value.int .i64 (0))] 51 false fun o2 => newBlock False o2 h fun b3 h =>
 CallW Tryz.prog 136 [a2] h fun v4 h =>
 unB False .not v4 h fun v5 h =>
 CondW v5 (
 fillB False [] [] [(Value.int .i64 (0)), (Value.int .i64 (0)), (Value.slice none 0 0), (Value.int .i64 (0))] fun cs6 =>
 storeV False 4 (ptrTo b3) (Value.agg (Array.mk cs6)) h fun v7 h =>
 loadA False 4 (ptrTo b3) h fun v8 _ => κ (Value.tuple (Array.mk [v8, (Value.bool false), (Value.int .i64 (2))])) h) (
 rs_146_4 b1 a1 b3 a2 h κ)) := by kernel_rfl

noncomputable def rs_147_0 (b7 : Nat) (v10 : Value) (b3 : Nat) (h : Heap) (κ : Value → Heap → Prop) : Prop :=
 RdK (fieldAddrB none 0 (ptrTo b7) h fun v _ => some v) h fun v36 h =>
 RdK (fieldAddrB none 2 v36 h fun v _ => some v) h fun v37 h =>
 RdK (load1 none v37 h fun v _ => some v) h fun v38 h =>
 RdK (some v10) h fun v39 h =>
 RdK (fieldAddrB none 0 (ptrTo b7) h fun v _ => some v) h fun v40 h =>
 RdK (fieldAddrB none 2 v40 h fun v _ => some v) h fun v41 h =>
 RdK (load1 none v41 h fun v _ => some v) h fun v42 h =>
 RdK (some v10) h fun v43 h =>
 RdK (fieldAddrB none 0 (ptrTo b7) h fun v _ => some v) h fun v44 h =>
 RdK (fieldAddrB none 2 v44 h fun v _ => some v) h fun v45 h =>
 RdK (load1 none v45 h fun v _ => some v) h fun v46 h =>
 RdK (some v10) h fun v47 h =>
 RdK (indexAddrS none 5 v46 v47 h fun v _ => some v) h fun v48 h =>
 RdK (fieldAddrB none 2 v48 h fun v _ => some v) h fun v49 h =>
 RdK (load1 none v49 h fun v _ => some v) h fun v50 h =>
 RdK (indexAddrS none 5 v38 v39 h fun v _ => some v) h fun v51 h =>
 RdK (fieldAddrB none 3 v51 h fun v _ => some v) h fun v52 h =>
 storeV False 1 v52 v50 h fun v53 h =>
 SameK ((reV (fieldAddrB none 0 (ptrTo b7) h fun v _ => some v) v40) && ((reV (fieldAddrB none 2 v40 h fun v _ => some v) v41) && ((reV (load1 none v41 h fun v _ => some v) v42) && ((reV (some v10) v43) && true)))) (RdK (indexAddrS none 5 v42 v43 h fun v _ => some v) h fun v54 h =>
 RdK (fieldAddrB none 4 v54 h fun v _ => some v) h fun v55 h =>
 storeV False 1 v55 (Value.int .i64 (0)) h fun v56 h =>
 fieldAddrB False 0 (ptrTo b7) h fun v57 h =>
 loadA False 4 v57 h fun v58 h =>
 storeV False 4 (ptrTo b3) v58 h fun v59 h =>
 loadA False 4 (ptrTo b3) h fun v60 _ => κ (Value.tuple (Array.mk [v60, (Value.int .i64 (0))])) h)

noncomputable def rs_147_1 (b7 : Nat) (v10 : Value) (a1 : Value) (b3 : Nat) (h : Heap) (κ : Value → Heap → Prop) : Prop :=
 fieldAddrB False 0 (ptrTo b7) h fun v25 h =>
 fieldAddrB False 2 v25 h fun v26 h =>
 load1 False v26 h fun v27 h =>
 indexAddrS False 5 v27 v10 h fun v28 h =>
 loadA False 5 v28 h fun v29 h =>
 CallW Tryz.prog 187 [v29] h fun v30 h =>
 unB False .not v30 h fun v31 h =>
 CondW v31 (
 loadA False 4 (ptrTo b7) h fun v32 h =>
 CallW Tryz.prog 170 [v32, a1] h fun v33 h =>
 storeV False 4 (ptrTo b3) v33 h fun v34 h =>
 loadA False 4 (ptrTo b3) h fun v35 _ => κ (Value.tuple (Array.mk [v35, (Value.int .i64 (0))])) h) (
 rs_147_0 b7 v10 b3 h κ)

noncomputable def rs_147_2 (b7 : Nat) (v10 : Value) (b3 : Nat) (a1 : Value) (h : Heap) (κ : Value → Heap → Prop) : Prop :=
 fieldAddrB False 0 (ptrTo b7) h fun v15 h =>
 fieldAddrB False 2 v15 h fun v16 h =>
 load1 False v16 h fun v17 h =>
 indexAddrS False 5 v17 v10 h fun v18 h =>
 loadA False 5 v18 h fun v19 h =>
 CallW Tryz.prog 193 [v19] h fun v20 h =>
 unB False .not v20 h fun v21 h =>
 CondW v21 (
 fillB False [] [] [(Value.int .i64 (0)), (Value.int .i64 (0)), (Value.slice none 0 0), (Value.int .i64 (0))] fun cs22 =>
 storeV False 4 (ptrTo b3) (Value.agg (Array.mk cs22)) h fun v23 h =>
 loadA False 4 (ptrTo b3) h fun v24 _ => κ (Value.tuple (Array.mk [v24, (Value.int .i64 (7))])) h) (
 rs_147_1 b7 v10 a1 b3 h κ)

/-- latchstring/queue.Abandon -/
theorem rs_147 (a0 a1 : Value) (h : Heap) (κ : Value → Heap → Prop) : BodyW Tryz.prog 147 [a0, a1] h κ = (
 cellsK False (Value.cells a0).toList 51 false fun o0 => newBlock False o0 h fun b1 h =>
 cellsK False [(Value.int .i64 (0)), (Value.int .i64 (0)), (Value.slice none 0 0), (Value.int .i64 (0))] 51 false fun o2 => newBlock False o2 h fun b3 h =>
 loadA False 4 (ptrTo b1) h fun v4 h =>
 CallW Tryz.prog 139 [v4] h fun v5 h =>
 cellsK False [(Value.int .i64 (0)), (Value.int .i64 (0)), (Value.slice none 0 0), (Value.int .i64 (0))] 178 false fun o6 => newBlock False o6 h fun b7 h =>
 storeV False 4 (ptrTo b7) v5 h fun v8 h =>
 loadA False 4 (ptrTo b7) h fun v9 h =>
 CallW Tryz.prog 169 [v9, a1] h fun v10 h =>
 binB False Tryz.prog .lss 3 true false v10 (Value.int .i64 (0)) h fun v11 h =>
 CondW v11 (
 fillB False [] [] [(Value.int .i64 (0)), (Value.int .i64 (0)), (Value.slice none 0 0), (Value.int .i64 (0))] fun cs12 =>
 storeV False 4 (ptrTo b3) (Value.agg (Array.mk cs12)) h fun v13 h =>
 loadA False 4 (ptrTo b3) h fun v14 _ => κ (Value.tuple (Array.mk [v14, (Value.int .i64 (5))])) h) (
 rs_147_2 b7 v10 b3 a1 h κ)) := by kernel_rfl

noncomputable def rs_148_0 (b11 : Nat) (b5 : Nat) (v15 : Value) (b7 : Nat) (h : Heap) (κ : Value → Heap → Prop) : Prop :=
 fieldAddrB False 0 (ptrTo b11) h fun v36 h =>
 fieldAddrB False 2 v36 h fun v37 h =>
 load1 False v37 h fun v38 h =>
 load1 False (ptrTo b5) h fun v39 h =>
 indexAddrS False 5 v38 v15 h fun v40 h =>
 fieldAddrB False 1 v40 h fun v41 h =>
 storeV False 1 v41 v39 h fun v42 h =>
 fieldAddrB False 0 (ptrTo b11) h fun v43 h =>
 loadA False 4 v43 h fun v44 h =>
 storeV False 4 (ptrTo b7) v44 h fun v45 h =>
 loadA False 4 (ptrTo b7) h fun v46 _ => κ (Value.tuple (Array.mk [v46, (Value.int .i64 (0))])) h

noncomputable def rs_148_1 (b11 : Nat) (v15 : Value) (b7 : Nat) (b5 : Nat) (h : Heap) (κ : Value → Heap → Prop) : Prop :=
 fieldAddrB False 0 (ptrTo b11) h fun v27 h =>
 fieldAddrB False 2 v27 h fun v28 h =>
 load1 False v28 h fun v29 h =>
 indexAddrS False 5 v29 v15 h fun v30 h =>
 loadA False 5 v30 h fun v31 h =>
 CallW Tryz.prog 193 [v31] h fun v32 h =>
 CondW v32 (
 fillB False [] [] [(Value.int .i64 (0)), (Value.int .i64 (0)), (Value.slice none 0 0), (Value.int .i64 (0))] fun cs33 =>
 storeV False 4 (ptrTo b7) (Value.agg (Array.mk cs33)) h fun v34 h =>
 loadA False 4 (ptrTo b7) h fun v35 _ => κ (Value.tuple (Array.mk [v35, (Value.int .i64 (7))])) h) (
 rs_148_0 b11 b5 v15 b7 h κ)

noncomputable def rs_148_2 (b11 : Nat) (b3 : Nat) (b5 : Nat) (b7 : Nat) (v15 : Value) (h : Heap) (κ : Value → Heap → Prop) : Prop :=
 fieldAddrB False 0 (ptrTo b11) h fun v20 h =>
 fieldAddrB False 2 v20 h fun v21 h =>
 load1 False v21 h fun v22 h =>
 CallW Tryz.prog 137 [v22, (Value.func (.func 195) (Array.mk []) (Array.mk [(ptrTo b3), (ptrTo b5)]))] h fun v23 h =>
 CondW v23 (
 fillB False [] [] [(Value.int .i64 (0)), (Value.int .i64 (0)), (Value.slice none 0 0), (Value.int .i64 (0))] fun cs24 =>
 storeV False 4 (ptrTo b7) (Value.agg (Array.mk cs24)) h fun v25 h =>
 loadA False 4 (ptrTo b7) h fun v26 _ => κ (Value.tuple (Array.mk [v26, (Value.int .i64 (4))])) h) (
 rs_148_1 b11 v15 b7 b5 h κ)

/-- latchstring/queue.Hand -/
theorem rs_148 (a0 a1 a2 : Value) (h : Heap) (κ : Value → Heap → Prop) : BodyW Tryz.prog 148 [a0, a1, a2] h κ = (
 cellsK False (Value.cells a0).toList 51 false fun o0 => newBlock False o0 h fun b1 h =>
 cellsK False (Value.cells a1).toList 3 false fun o2 => newBlock False o2 h fun b3 h =>
 cellsK False (Value.cells a2).toList 3 false fun o4 => newBlock False o4 h fun b5 h =>
 cellsK False [(Value.int .i64 (0)), (Value.int .i64 (0)), (Value.slice none 0 0), (Value.int .i64 (0))] 51 false fun o6 => newBlock False o6 h fun b7 h =>
 loadA False 4 (ptrTo b1) h fun v8 h =>
 CallW Tryz.prog 139 [v8] h fun v9 h =>
 cellsK False [(Value.int .i64 (0)), (Value.int .i64 (0)), (Value.slice none 0 0), (Value.int .i64 (0))] 178 false fun o10 => newBlock False o10 h fun b11 h =>
 storeV False 4 (ptrTo b11) v9 h fun v12 h =>
 loadA False 4 (ptrTo b11) h fun v13 h =>
 load1 False (ptrTo b3) h fun v14 h =>
 CallW Tryz.prog 169 [v13, v14] h fun v15 h =>
 binB False Tryz.prog .lss 3 true false v15 (Value.int .i64 (0)) h fun v16 h =>
 CondW v16 (
 fillB False [] [] [(Value.int .i64 (0)), (Value.int .i64 (0)), (Value.slice none 0 0), (Value.int .i64 (0))] fun cs17 =>
 storeV False 4 (ptrTo b7) (Value.agg (Array.mk cs17)) h fun v18 h =>
 loadA False 4 (ptrTo b7) h fun v19 _ => κ (Value.tuple (Array.mk [v19, (Value.int .i64 (5))])) h) (
 rs_148_2 b11 b3 b5 b7 v15 h κ)) := by kernel_rfl

/-- slices.SortedFunc[latchstring/api.Name] -/
theorem rs_149 (a0 a1 : Value) (h : Heap) (κ : Value → Heap → Prop) : BodyW Tryz.prog 149 [a0, a1] h κ = (
 CallW Tryz.prog 196 [a0] h fun v0 h =>
 CallW Tryz.prog 197 [v0, a1] h fun v1 h =>
 κ v0 h) := by kernel_rfl

/-- maps.Keys[map[latchstring/api.Name]*latchstring/api.Head,latchstring/api.Name,*latchstring/api.Head] -/
theorem rs_150 (a0 : Value) (h : Heap) (κ : Value → Heap → Prop) : BodyW Tryz.prog 150 [a0] h κ = (
 cellsK False (Value.cells a0).toList 135 false fun o0 => newBlock False o0 h fun b1 h =>
 κ (Value.func (.func 198) (Array.mk []) (Array.mk [(ptrTo b1)])) h) := by kernel_rfl

/-- (latchstring/queue.view).place -/
theorem rs_169 (a0 a1 : Value) (h : Heap) (κ : Value → Heap → Prop) : BodyW Tryz.prog 169 [a0, a1] h κ = (
 cellsK False (Value.cells a0).toList 178 false fun o0 => newBlock False o0 h fun b1 h =>
 cellsK False (Value.cells a1).toList 3 false fun o2 => newBlock False o2 h fun b3 h =>
 fieldAddrB False 0 (ptrTo b1) h fun v4 h =>
 fieldAddrB False 2 v4 h fun v5 h =>
 load1 False v5 h fun v6 h =>
 CallW Tryz.prog 130 [v6, (Value.func (.func 207) (Array.mk []) (Array.mk [(ptrTo b3)]))] h fun v7 h =>
 κ v7 h) := by kernel_rfl

/-- (latchstring/queue.view).without -/
theorem rs_170 (a0 a1 : Value) (h : Heap) (κ : Value → Heap → Prop) : BodyW Tryz.prog 170 [a0, a1] h κ = (
 cellsK False (Value.cells a0).toList 178 false fun o0 => newBlock False o0 h fun b1 h =>
 cellsK False (Value.cells a1).toList 3 false fun o2 => newBlock False o2 h fun b3 h =>
 cellsK False [(Value.int .i64 (0)), (Value.int .i64 (0)), (Value.slice none 0 0), (Value.int .i64 (0))] 51 false fun o4 => newBlock False o4 h fun b5 h =>
 fieldAddrB False 0 (ptrTo b1) h fun v6 h =>
 fieldAddrB False 2 v6 h fun v7 h =>
 load1 False v7 h fun v8 h =>
 CallW Tryz.prog 208 [v8, (Value.func (.func 209) (Array.mk []) (Array.mk [(ptrTo b3)]))] h fun v9 h =>
 fieldAddrB False 0 (ptrTo b1) h fun v10 h =>
 fieldAddrB False 2 v10 h fun v11 h =>
 storeV False 1 v11 v9 h fun v12 h =>
 fieldAddrB False 0 (ptrTo b1) h fun v13 h =>
 loadA False 4 v13 h fun v14 h =>
 storeV False 4 (ptrTo b5) v14 h fun v15 h =>
 loadA False 4 (ptrTo b5) h fun v16 _ => κ v16 h) := by kernel_rfl

noncomputable def rs_184_0 (v5 : Value) (a2 : Value) (a0 : Value) (N12 : List Value → Heap → Prop) (l3 : List Value) (h : Heap) : Prop :=
 binB False Tryz.prog .add 3 true false v5 (Value.int .i64 (1)) h fun v14 h =>
 binB False Tryz.prog .lss 3 false false v14 a2 h fun v15 h =>
 GuardW (wantV v15 true) (fun K16 =>
 K16 a0 h) h fun v17 h =>
 GuardW (wantV v15 true) (fun K18 =>
 K18 v14 h) h fun v19 h =>
 GuardW (wantV v15 true) (fun K20 =>
 K20 v5 h) h fun v21 h =>
 GuardW (wantV v15 true) (fun K22 =>
 CallI Tryz.prog "Less" v17 [v19, v21] h K22) h fun v23 h =>
 pickB False v15 v23 (Value.bool false) h fun v24 h =>
 CondW v24 (
 N12 [v5, v14, v14, v14, a2, v15, v15, v17, v19, v21, v23, v24, v14, v14] h) (
 N12 [v5, v14, v14, v14, a2, v15, v15, v17, v19, v21, v23, v24, (slot l3 24), v5] h)

noncomputable def rs_184_1 (v5 : Value) (a2 : Value) (a0 : Value) (l3 : List Value) (N0 : List Value → Heap → Prop) (v4 : Value) (v6 : Value) (v8 : Value) (v10 : Value) (v11 : Value) (N2 : List Value → Heap → Prop) (h : Heap) : Prop :=
 JoinR (fun N12 =>
 rs_184_0 v5 a2 a0 N12 l3 h) fun l13 h =>
 CallI Tryz.prog "Less" a0 [(slot l13 13), (slot l3 36)] h fun v25 h =>
 unB False .not v25 h fun v26 h =>
 CondW v26 (
 N0 [(slot l3 36), v4, v5, v5, v5, a2, v6, v6, v8, v10, v11, v5, (slot l13 0), (slot l13 1), (slot l13 2), (slot l13 3), (slot l13 4), (slot l13 5), (slot l13 6), (slot l13 7), (slot l13 8), (slot l13 9), (slot l13 10), (slot l13 11), (slot l13 12), (slot l13 13), a0, (slot l13 13), (slot l3 36), v25, v26, (slot l3 31), (slot l3 32), (slot l3 33), (slot l3 34), (slot l3 35), (slot l3 36)] h) (
 CallI Tryz.prog "Swap" a0 [(slot l3 36), (slot l13 13)] h fun v27 h =>
 N2 [(slot l3 36), v4, v5, v5, v5, a2, v6, v6, v8, v10, v11, v5, (slot l13 0), (slot l13 1), (slot l13 2), (slot l13 3), (slot l13 4), (slot l13 5), (slot l13 6), (slot l13 7), (slot l13 8), (slot l13 9), (slot l13 10), (slot l13 11), (slot l13 12), (slot l13 13), a0, (slot l13 13), (slot l3 36), v25, v26, a0, (slot l3 36), (slot l13 13), v27, (slot l13 13), (slot l13 13)] h)

noncomputable def rs_184_2 (l3 : List Value) (a2 : Value) (N0 : List Value → Heap → Prop) (a0 : Value) (N2 : List Value → Heap → Prop) (h : Heap) : Prop :=
 binB False Tryz.prog .mul 3 true false (Value.int .i64 (2)) (slot l3 36) h fun v4 h =>
 binB False Tryz.prog .add 3 true false v4 (Value.int .i64 (1)) h fun v5 h =>
 binB False Tryz.prog .geq 3 false false v5 a2 h fun v6 h =>
 GuardW (wantV v6 false) (fun K7 =>
 K7 v5 h) h fun v8 h =>
 GuardW (wantV v6 false) (fun K9 =>
 binB False Tryz.prog .lss 3 true false v8 (Value.int .i64 (0)) h K9) h fun v10 h =>
 pickB False v6 (Value.bool true) v10 h fun v11 h =>
 CondW v11 (
 N0 [(slot l3 36), v4, v5, v5, v5, a2, v6, v6, v8, v10, v11, (slot l3 11), (slot l3 12), (slot l3 13), (slot l3 14), (slot l3 15), (slot l3 16), (slot l3 17), (slot l3 18), (slot l3 19), (slot l3 20), (slot l3 21), (slot l3 22), (slot l3 23), (slot l3 24), (slot l3 25), (slot l3 26), (slot l3 27), (slot l3 28), (slot l3 29), (slot l3 30), (slot l3 31), (slot l3 32), (slot l3 33), (slot l3 34), (slot l3 35), (slot l3 36)] h) (
 rs_184_1 v5 a2 a0 l3 N0 v4 v6 v8 v10 v11 N2 h)

/-- container/heap.down -/
theorem rs_184 (a0 a1 a2 : Value) (h : Heap) (κ : Value → Heap → Prop) : BodyW Tryz.prog 184 [a0, a1, a2] h κ = (
 JoinR (fun N0 =>
 LoopR [undef, undef, undef, undef, undef, undef, undef, undef, undef, undef, undef, undef, undef, undef, undef, undef, undef, undef, undef, undef, undef, undef, undef, undef, undef, undef, undef, undef, undef, undef, undef, undef, undef, undef, undef, undef, a1] h fun l3 h N2 =>
 rs_184_2 l3 a2 N0 a0 N2 h) fun l1 h =>
 binB False Tryz.prog .gtr 3 false false (slot l1 36) a1 h fun v28 h =>
 κ v28 h) := by kernel_rfl

/-- latchstring/queue.upgrades -/
theorem rs_185 (a0 : Value) (h : Heap) (κ : Value → Heap → Prop) : BodyW Tryz.prog 185 [a0] h κ = (
 cellsK False (Value.cells a0).toList 54 false fun o0 => newBlock False o0 h fun b1 h =>
 loadA False 5 (ptrTo b1) h fun v2 h =>
 CallW Tryz.prog 187 [v2] h fun v3 h =>
 GuardW (wantV v3 true) (fun K4 =>
 loadA False 5 (ptrTo b1) h K4) h fun v5 h =>
 GuardW (wantV v3 true) (fun K6 =>
 CallW Tryz.prog 193 [v5] h K6) h fun v7 h =>
 pickB False v3 v7 (Value.bool false) h fun v8 h =>
 κ v8 h) := by kernel_rfl

/-- (latchstring/queue.view).first$1 -/
theorem rs_186 (a0 : Value) (h : Heap) (κ : Value → Heap → Prop) : BodyW Tryz.prog 186 [a0] h κ = (
 cellsK False (Value.cells a0).toList 54 false fun o0 => newBlock False o0 h fun b1 h =>
 loadA False 5 (ptrTo b1) h fun v2 h =>
 CallW Tryz.prog 187 [v2] h fun v3 h =>
 unB False .not v3 h fun v4 h =>
 κ v4 h) := by kernel_rfl

/-- latchstring/queue.holds -/
theorem rs_187 (a0 : Value) (h : Heap) (κ : Value → Heap → Prop) : BodyW Tryz.prog 187 [a0] h κ = (
 cellsK False (Value.cells a0).toList 54 false fun o0 => newBlock False o0 h fun b1 h =>
 fieldAddrB False 2 (ptrTo b1) h fun v2 h =>
 load1 False v2 h fun v3 h =>
 binB False Tryz.prog .neq 33 true false v3 (Value.int .i64 (0)) h fun v4 h =>
 κ v4 h) := by kernel_rfl

/-- (latchstring/queue.view).fits$1 -/
theorem rs_188 (a0 a1 : Value) (h : Heap) (κ : Value → Heap → Prop) : BodyW Tryz.prog 188 [a0, a1] h κ = (
 cellsK False (Value.cells a0).toList 54 false fun o0 => newBlock False o0 h fun b1 h =>
 fieldAddrB False 0 (ptrTo b1) h fun v2 h =>
 load1 False v2 h fun v3 h =>
 fieldAddrB False 0 a1 h fun v4 h =>
 load1 False v4 h fun v5 h =>
 binB False Tryz.prog .neq 3 false false v3 v5 h fun v6 h =>
 GuardW (wantV v6 true) (fun K7 =>
 loadA False 5 (ptrTo b1) h K7) h fun v8 h =>
 GuardW (wantV v6 true) (fun K9 =>
 CallW Tryz.prog 187 [v8] h K9) h fun v10 h =>
 pickB False v6 v10 (Value.bool false) h fun v11 h =>
 GuardW (wantV v11 true) (fun K12 =>
 fieldAddrB False 2 (ptrTo b1) h K12) h fun v13 h =>
 GuardW (wantV v11 true) (fun K14 =>
 load1 False v13 h K14) h fun v15 h =>
 GuardW (wantV v11 true) (fun K16 =>
 fieldAddrB False 3 a1 h K16) h fun v17 h =>
 GuardW (wantV v11 true) (fun K18 =>
 load1 False v17 h K18) h fun v19 h =>
 GuardW (wantV v11 true) (fun K20 =>
 CallW Tryz.prog 189 [v15, v19] h K20) h fun v21 h =>
 GuardW (wantV v11 true) (fun K22 =>
 unB False .not v21 h K22) h fun v23 h =>
 pickB False v11 v23 (Value.bool false) h fun v24 h =>
 κ v24 h) := by kernel_rfl

/-- latchstring/name.Database -/
theorem rs_190 (h : Heap) (κ : Value → Heap → Prop) : BodyW Tryz.prog 190 [] h κ = (
 cellsK False [(Value.int .i64 (0)), (Value.int .i64 (0))] 24 false fun o0 => newBlock False o0 h fun b1 h =>
 fillB False [(0, 1), (1, 1)] [(Value.int .i64 (-1)), (Value.int .i64 (-1))] [(Value.int .i64 (0)), (Value.int .i64 (0))] fun cs2 =>
 storeV False 2 (ptrTo b1) (Value.agg (Array.mk cs2)) h fun v3 h =>
 loadA False 2 (ptrTo b1) h fun v4 _ => κ v4 h) := by kernel_rfl

/-- latchstring/name.within -/
theorem rs_191 (a0 : Value) (h : Heap) (κ : Value → Heap → Prop) : BodyW Tryz.prog 191 [a0] h κ = (
 binB False Tryz.prog .geq 3 true false a0 (Value.int .i64 (0)) h fun v0 h =>
 GuardW (wantV v0 true) (fun K1 =>
 K1 a0 h) h fun v2 h =>
 GuardW (wantV v0 true) (fun K3 =>
 binB False Tryz.prog .lss 3 true false v2 (Value.int .i64 (100)) h K3) h fun v4 h =>
 pickB False v0 v4 (Value.bool false) h fun v5 h =>
 κ v5 h) := by kernel_rfl

/-- latchstring/queue.waits -/
theorem rs_193 (a0 : Value) (h : Heap) (κ : Value → Heap → Prop) : BodyW Tryz.prog 193 [a0] h κ = (
 cellsK False (Value.cells a0).toList 54 false fun o0 => newBlock False o0 h fun b1 h =>
 fieldAddrB False 4 (ptrTo b1) h fun v2 h =>
 load1 False v2 h fun v3 h =>
 binB False Tryz.prog .gtr 3 true false v3 (Value.int .i64 (0)) h fun v4 h =>
 κ v4 h) := by kernel_rfl

/-- latchstring/queue.Hand$1 -/
theorem rs_195 (a0 a1 a2 : Value) (h : Heap) (κ : Value → Heap → Prop) : BodyW Tryz.prog 195 [a0, a1, a2] h κ = (
 cellsK False (Value.cells a0).toList 54 false fun o0 => newBlock False o0 h fun b1 h =>
 fieldAddrB False 0 (ptrTo b1) h fun v2 h =>
 load1 False v2 h fun v3 h =>
 load1 False a1 h fun v4 h =>
 binB False Tryz.prog .neq 3 false false v3 v4 h fun v5 h =>
 GuardW (wantV v5 true) (fun K6 =>
 fieldAddrB False 1 (ptrTo b1) h K6) h fun v7 h =>
 GuardW (wantV v5 true) (fun K8 =>
 load1 False v7 h K8) h fun v9 h =>
 GuardW (wantV v5 true) (fun K10 =>
 load1 False a2 h K10) h fun v11 h =>
 GuardW (wantV v5 true) (fun K12 =>
 binB False Tryz.prog .eql 3 false false v9 v11 h K12) h fun v13 h =>
 pickB False v5 v13 (Value.bool false) h fun v14 h =>
 κ v14 h) := by kernel_rfl

/-- slices.Collect[latchstring/api.Name] -/
theorem rs_196 (a0 : Value) (h : Heap) (κ : Value → Heap → Prop) : BodyW Tryz.prog 196 [a0] h κ = (
 CallW Tryz.prog 219 [(Value.slice none 0 0), a0] h fun v0 h =>
 κ v0 h) := by kernel_rfl

/-- slices.SortFunc[[]latchstring/api.Name,latchstring/api.Name] -/
theorem rs_197 (a0 a1 : Value) (h : Heap) (κ : Value → Heap → Prop) : BodyW Tryz.prog 197 [a0, a1] h κ = (
 lenSli False a0 h fun v0 h =>
 convI False .u64 v0 h fun v1 h =>
 CallW Tryz.prog 109 [v1] h fun v2 h =>
 CallW Tryz.prog 220 [a0, (Value.int .i64 (0)), v0, v2, a1] h fun v3 h =>
 κ (Value.tuple (Array.mk [])) h) := by kernel_rfl

/-- (latchstring/queue.view).place$1 -/
theorem rs_207 (a0 a1 : Value) (h : Heap) (κ : Value → Heap → Prop) : BodyW Tryz.prog 207 [a0, a1] h κ = (
 cellsK False (Value.cells a0).toList 54 false fun o0 => newBlock False o0 h fun b1 h =>
 fieldAddrB False 0 (ptrTo b1) h fun v2 h =>
 load1 False v2 h fun v3 h =>
 load1 False a1 h fun v4 h =>
 binB False Tryz.prog .eql 3 false false v3 v4 h fun v5 h =>
 κ v5 h) := by kernel_rfl

/-- (latchstring/queue.view).without$1 -/
theorem rs_209 (a0 a1 : Value) (h : Heap) (κ : Value → Heap → Prop) : BodyW Tryz.prog 209 [a0, a1] h κ = (
 cellsK False (Value.cells a0).toList 54 false fun o0 => newBlock False o0 h fun b1 h =>
 fieldAddrB False 0 (ptrTo b1) h fun v2 h =>
 load1 False v2 h fun v3 h =>
 load1 False a1 h fun v4 h =>
 binB False Tryz.prog .eql 3 false false v3 v4 h fun v5 h =>
 κ v5 h) := by kernel_rfl

noncomputable def rs_220_0 (a0 : Value) (l1 : List Value) (l16 : List Value) (a4 : Value) (v2 : Value) (l8 : List Value) (N0 : List Value → Heap → Prop) (v3 : Value) (v5 : Value) (v12 : Value) (v13 : Value) (v14 : Value) (l23 : List Value) (v33 : Value) (v34 : Value) (v35 : Value) (v37 : Value) (v39 : Value) (v41 : Value) (v43 : Value) (v45 : Value) (v47 : Value) (v49 : Value) (v51 : Value) (v53 : Value) (v55 : Value) (v57 : Value) (v59 : Value) (v61 : Value) (v62 : Value) (h : Heap) : Prop :=
 CallW Tryz.prog 232 [a0, (slot l1 127), (slot l1 140), (slot l16 13), a4] h fun v64 h =>
 extractB False 0 v64 h fun v65 h =>
 extractB False 1 v64 h fun v66 h =>
 binB False Tryz.prog .sub 3 false false v65 (slot l1 127) h fun v67 h =>
 binB False Tryz.prog .sub 3 false false (slot l1 140) v65 h fun v68 h =>
 binB False Tryz.prog .quo 3 true false v2 (Value.int .i64 (8)) h fun v69 h =>
 binB False Tryz.prog .lss 3 false false v67 v68 h fun v70 h =>
 CondW v70 (
 binB False Tryz.prog .geq 3 false false v67 v69 h fun v71 h =>
 CallW Tryz.prog 220 [a0, (slot l1 127), v65, (slot l8 9), a4] h fun v72 h =>
 binB False Tryz.prog .add 3 true false v65 (Value.int .i64 (1)) h fun v73 h =>
 N0 [(slot l1 140), (slot l1 127), v2, v2, v2, v3, (slot l1 6), (slot l1 7), (slot l1 8), (slot l1 9), (slot l1 10), (slot l1 27), v5, (slot l1 13), (slot l1 14), (slot l1 15), (slot l1 16), (slot l1 17), (slot l8 0), (slot l8 1), (slot l8 2), (slot l8 3), (slot l8 4), (slot l8 5), (slot l8 6), (slot l8 7), (slot l8 8), (slot l8 9), a0, (slot l1 127), (slot l1 140), a4, v12, v12, v13, v14, (slot l16 0), (slot l16 1), (slot l16 2), (slot l16 3), (slot l16 4), (slot l16 5), (slot l16 6), (slot l16 7), (slot l16 8), (slot l16 9), (slot l16 10), (slot l16 11), (slot l16 12), (slot l16 13), (slot l16 14), (slot l23 0), (slot l23 1), (slot l23 2), (slot l23 3), (slot l23 4), (slot l23 5), (slot l23 6), (slot l23 7), (slot l23 8), (slot l23 9), (slot l23 10), (slot l23 11), (slot l23 12), v33, v34, v35, v37, v39, v41, v43, v45, v47, v49, v51, v53, v55, v57, v59, v61, v62, (slot l1 81), (slot l1 82), (slot l1 83), (slot l1 84), (slot l1 85), (slot l1 86), (slot l1 87), (slot l1 88), a0, (slot l1 127), (slot l1 140), (slot l16 13), a4, v64, v64, v65, v66, v65, v66, v66, v66, v65, (slot l1 127), v67, (slot l1 140), v65, v68, v67, v68, v2, v69, v69, v67, v68, v70, v67, v69, v71, a0, (slot l1 127), v65, (slot l8 9), a4, v72, v65, v73, v73, (slot l1 128), (slot l1 129), (slot l1 130), v71, (slot l1 132), (slot l1 133), (slot l1 134), (slot l1 135), (slot l1 136), (slot l1 137), (slot l1 138), (slot l1 139), (slot l1 140)] h) (
 binB False Tryz.prog .geq 3 false false v68 v69 h fun v74 h =>
 binB False Tryz.prog .add 3 true false v65 (Value.int .i64 (1)) h fun v75 h =>
 CallW Tryz.prog 220 [a0, v75, (slot l1 140), (slot l8 9), a4] h fun v76 h =>
 N0 [(slot l1 140), (slot l1 127), v2, v2, v2, v3, (slot l1 6), (slot l1 7), (slot l1 8), (slot l1 9), (slot l1 10), (slot l1 27), v5, (slot l1 13), (slot l1 14), (slot l1 15), (slot l1 16), (slot l1 17), (slot l8 0), (slot l8 1), (slot l8 2), (slot l8 3), (slot l8 4), (slot l8 5), (slot l8 6), (slot l8 7), (slot l8 8), (slot l8 9), a0, (slot l1 127), (slot l1 140), a4, v12, v12, v13, v14, (slot l16 0), (slot l16 1), (slot l16 2), (slot l16 3), (slot l16 4), (slot l16 5), (slot l16 6), (slot l16 7), (slot l16 8), (slot l16 9), (slot l16 10), (slot l16 11), (slot l16 12), (slot l16 13), (slot l16 14), (slot l23 0), (slot l23 1), (slot l23 2), (slot l23 3), (slot l23 4), (slot l23 5), (slot l23 6), (slot l23 7), (slot l23 8), (slot l23 9), (slot l23 10), (slot l23 11), (slot l23 12), v33, v34, v35, v37, v39, v41, v43, v45, v47, v49, v51, v53, v55, v57, v59, v61, v62, (slot l1 81), (slot l1 82), (slot l1 83), (slot l1 84), (slot l1 85), (slot l1 86), (slot l1 87), (slot l1 88), a0, (slot l1 127), (slot l1 140), (slot l16 13), a4, v64, v64, v65, v66, v65, v66, v66, v66, v65, (slot l1 127), v67, (slot l1 140), v65, v68, v67, v68, v2, v69, v69, v67, v68, v70, (slot l1 116), (slot l1 117), (slot l1 118), (slot l1 119), (slot l1 120), (slot l1 121), (slot l1 122), (slot l1 123), (slot l1 124), (slot l1 125), (slot l1 126), (slot l1 127), v68, v69, v74, v74, a0, v65, v75, (slot l1 140), (slot l8 9), a4, v76, v65, v65] h)

noncomputable def rs_220_1 (l1 : List Value) (l16 : List Value) (a0 : Value) (a4 : Value) (N22 : List Value → Heap → Prop) (h : Heap) (κ : Value → Heap → Prop) : Prop :=
 GuardW (wantV (slot l1 131) true) (fun K24 =>
 K24 (slot l1 101) h) h fun v25 h =>
 pickB False (slot l1 131) v25 (Value.bool false) h fun v26 h =>
 GuardW (wantV v26 true) (fun K27 =>
 K27 (slot l16 14) h) h fun v28 h =>
 GuardW (wantV v26 true) (fun K29 =>
 binB False Tryz.prog .eql 189 true false v28 (Value.int .i64 (1)) h K29) h fun v30 h =>
 pickB False v26 v30 (Value.bool false) h fun v31 h =>
 CondW v31 (
 CallW Tryz.prog 230 [a0, (slot l1 127), (slot l1 140), a4] h fun v32 h =>
 CondW v32 (
 κ (Value.tuple (Array.mk [])) h) (
 N22 [(slot l1 131), (slot l1 131), v25, v26, v26, v28, v30, v31, a0, (slot l1 127), (slot l1 140), a4, v32] h)) (
 N22 [(slot l1 131), (slot l1 131), v25, v26, v26, v28, v30, v31, (slot l1 59), (slot l1 60), (slot l1 61), (slot l1 62), (slot l1 63)] h)

noncomputable def rs_220_2 (l1 : List Value) (a4 : Value) (a0 : Value) (l16 : List Value) (N0 : List Value → Heap → Prop) (v2 : Value) (v3 : Value) (v5 : Value) (l8 : List Value) (v12 : Value) (v13 : Value) (v14 : Value) (l23 : List Value) (h : Heap) : Prop :=
 RdK (some (slot l1 127)) h fun v33 h =>
 RdK (binB none Tryz.prog .gtr 3 true false v33 (Value.int .i64 (0)) h fun v _ => some v) h fun v34 h =>
 RdK (some v34) h fun v35 h =>
 GuardW (wantV v35 true) (fun K36 =>
 RdK (some a4) h K36) h fun v37 h =>
 GuardW (wantV v35 true) (fun K38 =>
 RdK (some a0) h K38) h fun v39 h =>
 GuardW (wantV v35 true) (fun K40 =>
 RdK (some (slot l1 127)) h K40) h fun v41 h =>
 GuardW (wantV v35 true) (fun K42 =>
 RdK (binB none Tryz.prog .sub 3 true false v41 (Value.int .i64 (1)) h fun v _ => some v) h K42) h fun v43 h =>
 GuardW (wantV v35 true) (fun K44 =>
 RdK (indexAddrS none 2 v39 v43 h fun v _ => some v) h K44) h fun v45 h =>
 GuardW (wantV v35 true) (fun K46 =>
 RdK (loadA none 2 v45 h fun v _ => some v) h K46) h fun v47 h =>
 GuardW (wantV v35 true) (fun K48 =>
 RdK (some a0) h K48) h fun v49 h =>
 GuardW (wantV v35 true) (fun K50 =>
 RdK (some (slot l16 13)) h K50) h fun v51 h =>
 GuardW (wantV v35 true) (fun K52 =>
 RdK (indexAddrS none 2 v49 v51 h fun v _ => some v) h K52) h fun v53 h =>
 GuardW (wantV v35 true) (fun K54 =>
 RdK (loadA none 2 v53 h fun v _ => some v) h K54) h fun v55 h =>
 GuardW (wantV v35 true) (fun K56 =>
 CallV Tryz.prog v37 [v47, v55] h K56) h fun v57 h =>
 GuardW (wantV v35 true) (fun K58 =>
 RdK (binB none Tryz.prog .lss 3 true false v57 (Value.int .i64 (0)) h fun v _ => some v) h K58) h fun v59 h =>
 GuardW (wantV v35 true) (fun K60 =>
 RdK (unB none .not v59 h fun v _ => some v) h K60) h fun v61 h =>
 RdK (pickB none v35 v61 (Value.bool false) h fun v _ => some v) h fun v62 h =>
 CondW v62 (
 CallW Tryz.prog 231 [a0, (slot l1 127), (slot l1 140), (slot l16 13), a4] h fun v63 h =>
 N0 [(slot l1 140), (slot l1 127), v2, v2, v2, v3, (slot l1 6), (slot l1 7), (slot l1 8), (slot l1 9), (slot l1 10), (slot l1 27), v5, (slot l1 13), (slot l1 14), (slot l1 15), (slot l1 16), (slot l1 17), (slot l8 0), (slot l8 1), (slot l8 2), (slot l8 3), (slot l8 4), (slot l8 5), (slot l8 6), (slot l8 7), (slot l8 8), (slot l8 9), a0, (slot l1 127), (slot l1 140), a4, v12, v12, v13, v14, (slot l16 0), (slot l16 1), (slot l16 2), (slot l16 3), (slot l16 4), (slot l16 5), (slot l16 6), (slot l16 7), (slot l16 8), (slot l16 9), (slot l16 10), (slot l16 11), (slot l16 12), (slot l16 13), (slot l16 14), (slot l23 0), (slot l23 1), (slot l23 2), (slot l23 3), (slot l23 4), (slot l23 5), (slot l23 6), (slot l23 7), (slot l23 8), (slot l23 9), (slot l23 10), (slot l23 11), (slot l23 12), v33, v34, v35, v37, v39, v41, v43, v45, v47, v49, v51, v53, v55, v57, v59, v61, v62, a0, (slot l1 127), (slot l1 140), (slot l16 13), a4, v63, v63, v63, (slot l1 89), (slot l1 90), (slot l1 91), (slot l1 92), (slot l1 93), (slot l1 94), (slot l1 95), (slot l1 96), (slot l1 97), (slot l1 98), (slot l1 99), (slot l1 100), (slot l1 101), (slot l1 102), (slot l1 103), (slot l1 104), (slot l1 105), (slot l1 106), (slot l1 107), (slot l1 108), (slot l1 109), (slot l1 110), (slot l1 111), (slot l1 112), (slot l1 113), (slot l1 114), (slot l1 115), (slot l1 116), (slot l1 117), (slot l1 118), (slot l1 119), (slot l1 120), (slot l1 121), (slot l1 122), (slot l1 123), (slot l1 124), (slot l1 125), (slot l1 126), v63, (slot l1 128), (slot l1 129), (slot l1 130), (slot l1 131), (slot l1 132), (slot l1 133), (slot l1 134), (slot l1 135), (slot l1 136), (slot l1 137), (slot l1 138), (slot l1 139), (slot l1 140)] h) (
 rs_220_0 a0 l1 l16 a4 v2 l8 N0 v3 v5 v12 v13 v14 l23 v33 v34 v35 v37 v39 v41 v43 v45 v47 v49 v51 v53 v55 v57 v59 v61 v62 h)

noncomputable def rs_220_3 (v14 : Value) (a0 : Value) (l1 : List Value) (a4 : Value) (v13 : Value) (N15 : List Value → Heap → Prop) (h : Heap) : Prop :=
 binB False Tryz.prog .eql 189 true false v14 (Value.int .i64 (2)) h fun v17 h =>
 CondW v17 (
 CallW Tryz.prog 229 [a0, (slot l1 127), (slot l1 140), a4] h fun v18 h =>
 binB False Tryz.prog .sub 3 true false (slot l1 140) (Value.int .i64 (1)) h fun v19 h =>
 binB False Tryz.prog .sub 3 false false v13 (slot l1 127) h fun v20 h =>
 binB False Tryz.prog .sub 3 false false v19 v20 h fun v21 h =>
 N15 [v14, v17, a0, (slot l1 127), (slot l1 140), a4, v18, (slot l1 140), v19, v13, (slot l1 127), v20, v21, v21, (Value.int .i64 (1))] h) (
 N15 [v14, v17, (slot l1 38), (slot l1 39), (slot l1 40), (slot l1 41), (slot l1 42), (slot l1 43), (slot l1 44), (slot l1 45), (slot l1 46), (slot l1 47), (slot l1 48), v13, v14] h)

noncomputable def rs_220_4 (a0 : Value) (l1 : List Value) (a4 : Value) (N0 : List Value → Heap → Prop) (v2 : Value) (v3 : Value) (v5 : Value) (l8 : List Value) (h : Heap) (κ : Value → Heap → Prop) : Prop :=
 CallW Tryz.prog 228 [a0, (slot l1 127), (slot l1 140), a4] h fun v12 h =>
 extractB False 0 v12 h fun v13 h =>
 extractB False 1 v12 h fun v14 h =>
 JoinR (fun N15 =>
 rs_220_3 v14 a0 l1 a4 v13 N15 h) fun l16 h =>
 JoinR (fun N22 =>
 rs_220_1 l1 l16 a0 a4 N22 h κ) fun l23 h =>
 rs_220_2 l1 a4 a0 l16 N0 v2 v3 v5 l8 v12 v13 v14 l23 h

noncomputable def rs_220_5 (l1 : List Value) (a0 : Value) (a4 : Value) (N0 : List Value → Heap → Prop) (v2 : Value) (v3 : Value) (v5 : Value) (h : Heap) (κ : Value → Heap → Prop) : Prop :=
 JoinR (fun N7 =>
 unB False .not (slot l1 131) h fun v9 h =>
 CondW v9 (
 CallW Tryz.prog 227 [a0, (slot l1 127), (slot l1 140), a4] h fun v10 h =>
 binB False Tryz.prog .sub 3 true false (slot l1 27) (Value.int .i64 (1)) h fun v11 h =>
 N7 [(slot l1 131), v9, a0, (slot l1 127), (slot l1 140), a4, v10, (slot l1 27), v11, v11] h) (
 N7 [(slot l1 131), v9, (slot l1 20), (slot l1 21), (slot l1 22), (slot l1 23), (slot l1 24), (slot l1 25), (slot l1 26), (slot l1 27)] h)) fun l8 h =>
 rs_220_4 a0 l1 a4 N0 v2 v3 v5 l8 h κ

noncomputable def rs_220_6 (l1 : List Value) (a0 : Value) (a4 : Value) (N0 : List Value → Heap → Prop) (h : Heap) (κ : Value → Heap → Prop) : Prop :=
 binB False Tryz.prog .sub 3 false false (slot l1 140) (slot l1 127) h fun v2 h =>
 binB False Tryz.prog .leq 3 true false v2 (Value.int .i64 (12)) h fun v3 h =>
 CondW v3 (
 CallW Tryz.prog 225 [a0, (slot l1 127), (slot l1 140), a4] h fun v4 h =>
 κ (Value.tuple (Array.mk [])) h) (
 binB False Tryz.prog .eql 3 true false (slot l1 27) (Value.int .i64 (0)) h fun v5 h =>
 CondW v5 (
 CallW Tryz.prog 226 [a0, (slot l1 127), (slot l1 140), a4] h fun v6 h =>
 κ (Value.tuple (Array.mk [])) h) (
 rs_220_5 l1 a0 a4 N0 v2 v3 v5 h κ))

/-- slices.pdqsortCmpFunc[latchstring/api.Name] -/
theorem rs_220 (a0 a1 a2 a3 a4 : Value) (h : Heap) (κ : Value → Heap → Prop) : BodyW Tryz.prog 220 [a0, a1, a2, a3, a4] h κ = (
 LoopR [undef, undef, undef, undef, undef, undef, undef, undef, undef, undef, undef, undef, undef, undef, undef, undef, undef, undef, undef, undef, undef, undef, undef, undef, undef, undef, undef, a3, undef, undef, undef, undef, undef, undef, undef, undef, undef, undef, undef, undef, undef, undef, undef, undef, undef, undef, undef, undef, undef, undef, undef, undef, undef, undef, undef, undef, undef, undef, undef, undef, undef, undef, undef, undef, undef, undef, undef, undef, undef, undef, undef, undef, undef, undef, undef, undef, undef, undef, undef, undef, undef, undef, undef, undef, undef, undef, undef, undef, undef, undef, undef, undef, undef, undef, undef, undef, undef, undef, undef, undef, undef, (Value.bool true), undef, undef, undef, undef, undef, undef, undef, undef, undef, undef, undef, undef, undef, undef, undef, undef, undef, undef, undef, undef, undef, undef, undef, undef, undef, a1, undef, undef, undef, (Value.bool true), undef, undef, undef, undef, undef, undef, undef, undef, a2] h fun l1 h N0 =>
 rs_220_6 l1 a0 a4 N0 h κ) := by kernel_rfl

noncomputable def rs_225_0 (a0 : Value) (l5 : List Value) (N4 : List Value → Heap → Prop) (v6 : Value) (v7 : Value) (v8 : Value) (v9 : Value) (v11 : Value) (v13 : Value) (v15 : Value) (v17 : Value) (v19 : Value) (v21 : Value) (v23 : Value) (v25 : Value) (v27 : Value) (v29 : Value) (v31 : Value) (v33 : Value) (v34 : Value) (h : Heap) : Prop :=
 RdK (some a0) h fun v35 h =>
 RdK (some (slot l5 35)) h fun v36 h =>
 RdK (some a0) h fun v37 h =>
 RdK (some (slot l5 35)) h fun v38 h =>
 RdK (binB none Tryz.prog .sub 3 true false v38 (Value.int .i64 (1)) h fun v _ => some v) h fun v39 h =>
 RdK (some a0) h fun v40 h =>
 RdK (some (slot l5 35)) h fun v41 h =>
 RdK (binB none Tryz.prog .sub 3 true false v41 (Value.int .i64 (1)) h fun v _ => some v) h fun v42 h =>
 RdK (indexAddrS none 2 v40 v42 h fun v _ => some v) h fun v43 h =>
 RdK (loadA none 2 v43 h fun v _ => some v) h fun v44 h =>
 RdK (some a0) h fun v45 h =>
 RdK (some (slot l5 35)) h fun v46 h =>
 RdK (indexAddrS none 2 v45 v46 h fun v _ => some v) h fun v47 h =>
 RdK (loadA none 2 v47 h fun v _ => some v) h fun v48 h =>
 RdK (indexAddrS none 2 v35 v36 h fun v _ => some v) h fun v49 h =>
 storeV False 2 v49 v44 h fun v50 h =>
 SameK ((reV (some a0) v37) && ((reV (some (slot l5 35)) v38) && ((reV (binB none Tryz.prog .sub 3 true false v38 (Value.int .i64 (1)) h fun v _ => some v) v39) && true))) (RdK (indexAddrS none 2 v37 v39 h fun v _ => some v) h fun v51 h =>
 storeV False 2 v51 v48 h fun v52 h =>
 binB False Tryz.prog .sub 3 true false (slot l5 35) (Value.int .i64 (1)) h fun v53 h =>
 N4 [v6, v7, v8, v9, v11, v13, v15, v17, v19, v21, v23, v25, v27, v29, v31, v33, v34, v35, v36, v37, v38, v39, v40, v41, v42, v43, v44, v45, v46, v47, v48, v49, v51, (slot l5 35), v53, v53] h)

noncomputable def rs_225_1 (l5 : List Value) (a1 : Value) (a3 : Value) (a0 : Value) (N4 : List Value → Heap → Prop) (l2 : List Value) (N1 : List Value → Heap → Prop) (a2 : Value) (v3 : Value) (h : Heap) : Prop :=
 RdK (some (slot l5 35)) h fun v6 h =>
 RdK (some a1) h fun v7 h =>
 RdK (binB none Tryz.prog .gtr 3 false false v6 v7 h fun v _ => some v) h fun v8 h =>
 RdK (some v8) h fun v9 h =>
 GuardW (wantV v9 true) (fun K10 =>
 RdK (some a3) h K10) h fun v11 h =>
 GuardW (wantV v9 true) (fun K12 =>
 RdK (some a0) h K12) h fun v13 h =>
 GuardW (wantV v9 true) (fun K14 =>
 RdK (some (slot l5 35)) h K14) h fun v15 h =>
 GuardW (wantV v9 true) (fun K16 =>
 RdK (indexAddrS none 2 v13 v15 h fun v _ => some v) h K16) h fun v17 h =>
 GuardW (wantV v9 true) (fun K18 =>
 RdK (loadA none 2 v17 h fun v _ => some v) h K18) h fun v19 h =>
 GuardW (wantV v9 true) (fun K20 =>
 RdK (some a0) h K20) h fun v21 h =>
 GuardW (wantV v9 true) (fun K22 =>
 RdK (some (slot l5 35)) h K22) h fun v23 h =>
 GuardW (wantV v9 true) (fun K24 =>
 RdK (binB none Tryz.prog .sub 3 true false v23 (Value.int .i64 (1)) h fun v _ => some v) h K24) h fun v25 h =>
 GuardW (wantV v9 true) (fun K26 =>
 RdK (indexAddrS none 2 v21 v25 h fun v _ => some v) h K26) h fun v27 h =>
 GuardW (wantV v9 true) (fun K28 =>
 RdK (loadA none 2 v27 h fun v _ => some v) h K28) h fun v29 h =>
 GuardW (wantV v9 true) (fun K30 =>
 CallV Tryz.prog v11 [v19, v29] h K30) h fun v31 h =>
 GuardW (wantV v9 true) (fun K32 =>
 RdK (binB none Tryz.prog .lss 3 true false v31 (Value.int .i64 (0)) h fun v _ => some v) h K32) h fun v33 h =>
 RdK (pickB none v9 v33 (Value.bool false) h fun v _ => some v) h fun v34 h =>
 CondW v34 (
 rs_225_0 a0 l5 N4 v6 v7 v8 v9 v11 v13 v15 v17 v19 v21 v23 v25 v27 v29 v31 v33 v34 h) (
 binB False Tryz.prog .add 3 true false (slot l2 42) (Value.int .i64 (1)) h fun v54 h =>
 N1 [(slot l2 42), a2, v3, (slot l2 42), v6, v7, v8, v9, v11, v13, v15, v17, v19, v21, v23, v25, v27, v29, v31, v33, v34, (slot l5 17), (slot l5 18), (slot l5 19), (slot l5 20), (slot l5 21), (slot l5 22), (slot l5 23), (slot l5 24), (slot l5 25), (slot l5 26), (slot l5 27), (slot l5 28), (slot l5 29), (slot l5 30), (slot l5 31), (slot l5 32), (slot l5 33), (slot l5 34), (slot l5 35), (slot l2 42), v54, v54] h)

/-- slices.insertionSortCmpFunc[latchstring/api.Name] -/
theorem rs_225 (a0 a1 a2 a3 : Value) (h : Heap) (κ : Value → Heap → Prop) : BodyW Tryz.prog 225 [a0, a1, a2, a3] h κ = (
 binB False Tryz.prog .add 3 true false a1 (Value.int .i64 (1)) h fun v0 h =>
 LoopR [undef, undef, undef, undef, undef, undef, undef, undef, undef, undef, undef, undef, undef, undef, undef, undef, undef, undef, undef, undef, undef, undef, undef, undef, undef, undef, undef, undef, undef, undef, undef, undef, undef, undef, undef, undef, undef, undef, undef, undef, undef, undef, v0] h fun l2 h N1 =>
 binB False Tryz.prog .lss 3 false false (slot l2 42) a2 h fun v3 h =>
 CondW v3 (
 LoopR [(slot l2 4), (slot l2 5), (slot l2 6), (slot l2 7), (slot l2 8), (slot l2 9), (slot l2 10), (slot l2 11), (slot l2 12), (slot l2 13), (slot l2 14), (slot l2 15), (slot l2 16), (slot l2 17), (slot l2 18), (slot l2 19), (slot l2 20), (slot l2 21), (slot l2 22), (slot l2 23), (slot l2 24), (slot l2 25), (slot l2 26), (slot l2 27), (slot l2 28), (slot l2 29), (slot l2 30), (slot l2 31), (slot l2 32), (slot l2 33), (slot l2 34), (slot l2 35), (slot l2 36), (slot l2 37), (slot l2 38), (slot l2 42)] h fun l5 h N4 =>
 rs_225_1 l5 a1 a3 a0 N4 l2 N1 a2 v3 h) (
 κ (Value.tuple (Array.mk [])) h)) := by kernel_rfl

/-- (sort.IntSlice).Less -/
theorem rs_263 (a0 a1 a2 : Value) (h : Heap) (κ : Value → Heap → Prop) : BodyW Tryz.prog 263 [a0, a1, a2] h κ = (
 RdK (some a0) h fun v0 h =>
 RdK (some a1) h fun v1 h =>
 RdK (indexAddrS none 1 v0 v1 h fun v _ => some v) h fun v2 h =>
 RdK (load1 none v2 h fun v _ => some v) h fun v3 h =>
 RdK (some a0) h fun v4 h =>
 RdK (some a2) h fun v5 h =>
 RdK (indexAddrS none 1 v4 v5 h fun v _ => some v) h fun v6 h =>
 RdK (load1 none v6 h fun v _ => some v) h fun v7 h =>
 RdK (binB none Tryz.prog .lss 3 false false v3 v7 h fun v _ => some v) h fun v8 h =>
 κ v8 h) := by kernel_rfl

/-- (sort.IntSlice).Swap -/
theorem rs_265 (a0 a1 a2 : Value) (h : Heap) (κ : Value → Heap → Prop) : BodyW Tryz.prog 265 [a0, a1, a2] h κ = (
 RdK (some a0) h fun v0 h =>
 RdK (some a1) h fun v1 h =>
 RdK (some a0) h fun v2 h =>
 RdK (some a2) h fun v3 h =>
 RdK (some a0) h fun v4 h =>
 RdK (some a2) h fun v5 h =>
 RdK (indexAddrS none 1 v4 v5 h fun v _ => some v) h fun v6 h =>
 RdK (load1 none v6 h fun v _ => some v) h fun v7 h =>
 RdK (some a0) h fun v8 h =>
 RdK (some a1) h fun v9 h =>
 RdK (indexAddrS none 1 v8 v9 h fun v _ => some v) h fun v10 h =>
 RdK (load1 none v10 h fun v _ => some v) h fun v11 h =>
 RdK (indexAddrS none 1 v0 v1 h fun v _ => some v) h fun v12 h =>
 storeV False 1 v12 v7 h fun v13 h =>
 SameK ((reV (some a0) v2) && ((reV (some a2) v3) && true)) (RdK (indexAddrS none 1 v2 v3 h fun v _ => some v) h fun v14 h =>
 storeV False 1 v14 v11 h fun v15 h =>
 κ (Value.tuple (Array.mk [])) h)) := by kernel_rfl

/-- (*latchstring/pool.free).Pop -/
theorem rs_266 (a0 : Value) (h : Heap) (κ : Value → Heap → Prop) : BodyW Tryz.prog 266 [a0] h κ = (
 nilB False a0 h fun v0 h =>
 fieldAddrB False 0 v0 h fun v1 h =>
 load1 False v1 h fun v2 h =>
 CallW Tryz.prog 118 [v2] h fun v3 h =>
 binB False Tryz.prog .sub 3 true false v3 (Value.int .i64 (1)) h fun v4 h =>
 nilB False a0 h fun v5 h =>
 fieldAddrB False 0 v5 h fun v6 h =>
 load1 False v6 h fun v7 h =>
 indexAddrS False 1 v7 v4 h fun v8 h =>
 load1 False v8 h fun v9 h =>
 nilB False a0 h fun v10 h =>
 fieldAddrB False 0 v10 h fun v11 h =>
 load1 False v11 h fun v12 h =>
 sliceB False 3 1 v12 none (some v4) none h fun v13 h =>
 nilB False a0 h fun v14 h =>
 fieldAddrB False 0 v14 h fun v15 h =>
 storeV False 1 v15 v13 h fun v16 h =>
 κ (Value.iface 3 v9) h) := by kernel_rfl

noncomputable def rs_267_0 (a0 : Value) (v1 : Value) (h : Heap) (κ : Value → Heap → Prop) : Prop :=
 nilB False a0 h fun v3 h =>
 fieldAddrB False 0 v3 h fun v4 h =>
 load1 False v4 h fun v5 h =>
 fillB False [(0, 1)] [v1] (repeatL [(Value.int .i64 (0))] 1) fun cs8 => cellsK False cs8 3 false fun o6 => newBlock False o6 h fun b7 h =>
 appendB False 3 1 [(Value.int .i64 (0))] false v5 (sliceTo 1 1 b7) h fun v9 h =>
 nilB False a0 h fun v10 h =>
 fieldAddrB False 0 v10 h fun v11 h =>
 storeV False 1 v11 v9 h fun v12 h =>
 κ (Value.tuple (Array.mk [])) h

/-- (*latchstring/pool.free).Push -/
theorem rs_267 (a0 a1 : Value) (h : Heap) (κ : Value → Heap → Prop) : BodyW Tryz.prog 267 [a0, a1] h κ = (
 typeAssertB False 3 (Value.int .i64 (0)) true a1 h fun v0 h =>
 extractB False 0 v0 h fun v1 h =>
 extractB False 1 v0 h fun v2 h =>
 CondW v2 (
 rs_267_0 a0 v1 h κ) (
 κ (Value.tuple (Array.mk [])) h)) := by kernel_rfl

end Go.Proofs
