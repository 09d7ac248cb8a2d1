/-
  PROVED HERE: a part of the proof, by a calculus of weakest conditions over an abstract heap (RZ).
-/
import Derived.Test.YtijmemedhkgplaaGreatV4
import Derived.Test.YtijmemedhkgplaaGreatProg
import Derived.KernelRfl
set_option linter.unusedVariables false
set_option linter.unusedSimpArgs false
set_option maxRecDepth 100000
namespace Go.Proofs
open Go.Vai

noncomputable def rs_3_0 (a2 : Value) (l28 : List Value) (v6 : Value) (v13 : Value) (N27 : List Value → Heap → Prop) (v29 : Value) (v30 : Value) (v31 : Value) (v32 : Value) (v33 : Value) (v34 : Value) (v36 : Value) (v38 : Value) (v40 : Value) (v42 : Value) (v44 : Value) (v46 : Value) (v47 : Value) (v49 : Value) (v51 : Value) (v53 : Value) (v55 : Value) (v57 : Value) (v58 : Value) (v60 : Value) (v62 : Value) (v64 : Value) (v66 : Value) (v68 : Value) (v69 : Value) (h : Heap) (κ : Value → Heap → Prop) : Prop :=
 indexAddrS False 6 a2 (slot l28 122) h fun v70 h =>
 fieldAddrB False 3 v70 h fun v71 h =>
 load1 False v71 h fun v72 h =>
 CallW Tryz.prog 19 [v6, v72] h fun v73 h =>
 extractB False 0 v73 h fun v74 h =>
 extractB False 1 v73 h fun v75 h =>
 extractB False 2 v73 h fun v76 h =>
 cellsK False [(Value.int .i64 (0)), (Value.int .i64 (0))] 38 false fun o77 => newBlock False o77 h fun b78 h =>
 cellsK False [(Value.int .i64 (0)), (Value.int .i64 (0)), (Value.int .i64 (0)), (Value.int .i64 (0)), (Value.int .i64 (0))] 47 false fun o79 => newBlock False o79 h fun b80 h =>
 storeV False 2 (ptrTo b78) v74 h fun v81 h =>
 storeV False 5 (ptrTo b80) v75 h fun v82 h =>
 indexAddrS False 6 a2 (slot l28 122) h fun v83 h =>
 fieldAddrB False 3 v83 h fun v84 h =>
 load1 False v84 h fun v85 h =>
 CallW Tryz.prog 20 [v13, v85] h fun v86 h =>
 extractB False 0 v86 h fun v87 h =>
 extractB False 1 v86 h fun v88 h =>
 extractB False 2 v86 h fun v89 h =>
 cellsK False [(Value.int .i64 (0)), (Value.int .i64 (0))] 38 false fun o90 => newBlock False o90 h fun b91 h =>
 cellsK False [(Value.int .i64 (0)), (Value.int .i64 (0)), (Value.int .i64 (0)), (Value.int .i64 (0)), (Value.int .i64 (0))] 47 false fun o92 => newBlock False o92 h fun b93 h =>
 storeV False 2 (ptrTo b91) v87 h fun v94 h =>
 storeV False 5 (ptrTo b93) v88 h fun v95 h =>
 RdK (some v6) h fun v96 h =>
 RdK (some a2) h fun v97 h =>
 RdK (some (slot l28 122)) h fun v98 h =>
 RdK (indexAddrS none 6 v97 v98 h fun v _ => some v) h fun v99 h =>
 RdK (fieldAddrB none 1 v99 h fun v _ => some v) h fun v100 h =>
 RdK (loadA none 2 v100 h fun v _ => some v) h fun v101 h =>
 RdK (some a2) h fun v102 h =>
 RdK (some (slot l28 122)) h fun v103 h =>
 RdK (indexAddrS none 6 v102 v103 h fun v _ => some v) h fun v104 h =>
 RdK (fieldAddrB none 4 v104 h fun v _ => some v) h fun v105 h =>
 RdK (load1 none v105 h fun v _ => some v) h fun v106 h =>
 CallW Tryz.prog 21 [v96, v101, v106] h fun v107 h =>
 RdK (some v107) h fun v108 h =>
 RdK (extractB none 0 v108 h fun v _ => some v) h fun v109 h =>
 RdK (extractB none 1 v108 h fun v _ => some v) h fun v110 h =>
 SameK ((reV (extractB none 1 v108 h fun v _ => some v) v110) && true) (RdK (some v13) h fun v111 h =>
 RdK (some a2) h fun v112 h =>
 RdK (some (slot l28 122)) h fun v113 h =>
 RdK (indexAddrS none 6 v112 v113 h fun v _ => some v) h fun v114 h =>
 RdK (fieldAddrB none 1 v114 h fun v _ => some v) h fun v115 h =>
 RdK (loadA none 2 v115 h fun v _ => some v) h fun v116 h =>
 RdK (some a2) h fun v117 h =>
 RdK (some (slot l28 122)) h fun v118 h =>
 RdK (indexAddrS none 6 v117 v118 h fun v _ => some v) h fun v119 h =>
 RdK (fieldAddrB none 4 v119 h fun v _ => some v) h fun v120 h =>
 RdK (load1 none v120 h fun v _ => some v) h fun v121 h =>
 CallW Tryz.prog 22 [v111, v116, v121] h fun v122 h =>
 RdK (some v122) h fun v123 h =>
 RdK (extractB none 0 v123 h fun v _ => some v) h fun v124 h =>
 RdK (extractB none 1 v123 h fun v _ => some v) h fun v125 h =>
 SameK ((reV (extractB none 1 v123 h fun v _ => some v) v125) && true) (loadA False 2 (ptrTo b78) h fun v126 h =>
 loadA False 2 (ptrTo b91) h fun v127 h =>
 binB False Tryz.prog .neq 38 false false v126 v127 h fun v128 h =>
 GuardW (wantV v128 false) (fun K129 =>
 loadA False 5 (ptrTo b80) h K129) h fun v130 h =>
 GuardW (wantV v128 false) (fun K131 =>
 loadA False 5 (ptrTo b93) h K131) h fun v132 h =>
 GuardW (wantV v128 false) (fun K133 =>
 binB False Tryz.prog .neq 47 false false v130 v132 h K133) h fun v134 h =>
 pickB False v128 (Value.bool true) v134 h fun v135 h =>
 GuardW (wantV v135 false) (fun K136 =>
 K136 v76 h) h fun v137 h =>
 GuardW (wantV v135 false) (fun K138 =>
 K138 v89 h) h fun v139 h =>
 GuardW (wantV v135 false) (fun K140 =>
 binB False Tryz.prog .neq 4 false false v137 v139 h K140) h fun v141 h =>
 pickB False v135 (Value.bool true) v141 h fun v142 h =>
 GuardW (wantV v142 false) (fun K143 =>
 K143 v109 h) h fun v144 h =>
 GuardW (wantV v142 false) (fun K145 =>
 K145 v124 h) h fun v146 h =>
 GuardW (wantV v142 false) (fun K147 =>
 binB False Tryz.prog .neq 3 false false v144 v146 h K147) h fun v148 h =>
 pickB False v142 (Value.bool true) v148 h fun v149 h =>
 GuardW (wantV v149 false) (fun K150 =>
 K150 v110 h) h fun v151 h =>
 GuardW (wantV v149 false) (fun K152 =>
 K152 v125 h) h fun v153 h =>
 GuardW (wantV v149 false) (fun K154 =>
 binB False Tryz.prog .neq 4 false false v151 v153 h K154) h fun v155 h =>
 pickB False v149 (Value.bool true) v155 h fun v156 h =>
 CondW v156 (
 κ (Value.bool false) h) (
 binB False Tryz.prog .add 3 true false (slot l28 122) (Value.int .i64 (1)) h fun v157 h =>
 N27 [(slot l28 122), a2, v29, v30, v6, v13, a2, (slot l28 122), v31, v32, v33, v34, v34, v36, v38, v40, v42, v44, v46, v47, v47, v49, v51, v53, v55, v57, v58, v58, v60, v62, v64, v66, v68, v69, v6, a2, (slot l28 122), v70, v71, v72, v73, v73, v74, v75, v76, (ptrTo b78), (ptrTo b80), v76, v13, a2, (slot l28 122), v83, v84, v85, v86, v86, v87, v88, v89, (ptrTo b91), (ptrTo b93), v89, v96, v97, v98, v99, v100, v101, v102, v103, v104, v105, v106, v107, v108, v109, v110, v109, v110, v111, v112, v113, v114, v115, v116, v117, v118, v119, v120, v121, v122, v123, v124, v125, v124, v125, v126, v127, v128, v128, v130, v132, v134, v135, v135, v137, v139, v141, v142, v142, v144, v146, v148, v149, v149, v151, v153, v155, v156, (slot l28 119), (slot l28 122), v157, v157] h)))

noncomputable def rs_3_1 (a2 : Value) (l28 : List Value) (v6 : Value) (v13 : Value) (v7 : Value) (v10 : Value) (N27 : List Value → Heap → Prop) (v29 : Value) (v30 : Value) (h : Heap) (κ : Value → Heap → Prop) : Prop :=
 indexAddrS False 6 a2 (slot l28 122) h fun v31 h =>
 loadA False 6 v31 h fun v32 h =>
 CallW Tryz.prog 11 [v6, v13, v32] h fun v33 h =>
 unB False .not v33 h fun v34 h =>
 GuardW (wantV v34 false) (fun K35 =>
 K35 v6 h) h fun v36 h =>
 GuardW (wantV v34 false) (fun K37 =>
 CallW Tryz.prog 13 [v36] h K37) h fun v38 h =>
 GuardW (wantV v34 false) (fun K39 =>
 K39 v13 h) h fun v40 h =>
 GuardW (wantV v34 false) (fun K41 =>
 CallW Tryz.prog 14 [v40] h K41) h fun v42 h =>
 GuardW (wantV v34 false) (fun K43 =>
 CallW Tryz.prog 12 [v38, v42] h K43) h fun v44 h =>
 GuardW (wantV v34 false) (fun K45 =>
 unB False .not v44 h K45) h fun v46 h =>
 pickB False v34 (Value.bool true) v46 h fun v47 h =>
 GuardW (wantV v47 false) (fun K48 =>
 K48 v6 h) h fun v49 h =>
 GuardW (wantV v47 false) (fun K50 =>
 CallW Tryz.prog 15 [v49] h K50) h fun v51 h =>
 GuardW (wantV v47 false) (fun K52 =>
 K52 v13 h) h fun v53 h =>
 GuardW (wantV v47 false) (fun K54 =>
 CallW Tryz.prog 16 [v53] h K54) h fun v55 h =>
 GuardW (wantV v47 false) (fun K56 =>
 binB False Tryz.prog .neq 3 false false v51 v55 h K56) h fun v57 h =>
 pickB False v47 (Value.bool true) v57 h fun v58 h =>
 GuardW (wantV v58 false) (fun K59 =>
 K59 v7 h) h fun v60 h =>
 GuardW (wantV v58 false) (fun K61 =>
 CallW Tryz.prog 17 [v60] h K61) h fun v62 h =>
 GuardW (wantV v58 false) (fun K63 =>
 K63 v10 h) h fun v64 h =>
 GuardW (wantV v58 false) (fun K65 =>
 CallW Tryz.prog 18 [v64] h K65) h fun v66 h =>
 GuardW (wantV v58 false) (fun K67 =>
 binB False Tryz.prog .neq 3 false false v62 v66 h K67) h fun v68 h =>
 pickB False v58 (Value.bool true) v68 h fun v69 h =>
 CondW v69 (
 κ (Value.bool false) h) (
 rs_3_0 a2 l28 v6 v13 N27 v29 v30 v31 v32 v33 v34 v36 v38 v40 v42 v44 v46 v47 v49 v51 v53 v55 v57 v58 v60 v62 v64 v66 v68 v69 h κ)

noncomputable def rs_3_2 (v8 : Value) (v14 : Value) (h : Heap) (κ : Value → Heap → Prop) : Prop :=
 unB False .not v8 h fun v21 h =>
 GuardW (wantV v21 true) (fun K22 =>
 K22 v14 h) h fun v23 h =>
 GuardW (wantV v21 true) (fun K24 =>
 binB False Tryz.prog .neq 30 true false v23 (Value.int .i64 (0)) h K24) h fun v25 h =>
 pickB False v21 v25 (Value.bool false) h fun v26 h =>
 κ v26 h

noncomputable def rs_3_3 (a1 : Value) (a0 : Value) (a2 : Value) (h : Heap) (κ : Value → Heap → Prop) : Prop :=
 CallW Tryz.prog 7 [a1, (Value.int .i64 (129))] h fun v4 h =>
 CallW Tryz.prog 8 [a0, v4] h fun v5 h =>
 extractB False 0 v5 h fun v6 h =>
 extractB False 1 v5 h fun v7 h =>
 extractB False 2 v5 h fun v8 h =>
 CallW Tryz.prog 9 [v4] h fun v9 h =>
 extractB False 0 v9 h fun v10 h =>
 extractB False 1 v9 h fun v11 h =>
 CallW Tryz.prog 10 [a0, v10] h fun v12 h =>
 extractB False 0 v12 h fun v13 h =>
 extractB False 1 v12 h fun v14 h =>
 unB False .not v8 h fun v15 h =>
 GuardW (wantV v15 false) (fun K16 =>
 K16 v14 h) h fun v17 h =>
 GuardW (wantV v15 false) (fun K18 =>
 binB False Tryz.prog .neq 30 true false v17 (Value.int .i64 (0)) h K18) h fun v19 h =>
 pickB False v15 (Value.bool true) v19 h fun v20 h =>
 CondW v20 (
 rs_3_2 v8 v14 h κ) (
 LoopR [undef, undef, undef, undef, undef, undef, undef, undef, undef, undef, undef, undef, undef, undef, undef, undef, undef, undef, undef, undef, undef, undef, undef, undef, undef, undef, undef, undef, undef, undef, undef, undef, undef, undef, undef, undef, undef, undef, undef, undef, undef, undef, undef, undef, undef, undef, undef, undef, undef, undef, undef, undef, undef, undef, undef, undef, undef, undef, undef, undef, undef, undef, undef, undef, undef, undef, undef, undef, undef, undef, undef, undef, undef, undef, undef, undef, undef, undef, undef, undef, undef, undef, undef, undef, undef, undef, undef, undef, undef, undef, undef, undef, undef, undef, undef, undef, undef, undef, undef, undef, undef, undef, undef, undef, undef, undef, undef, undef, undef, undef, undef, undef, undef, undef, undef, undef, undef, undef, undef, (Value.bool false), undef, undef, (Value.int .i64 (0))] h fun l28 h N27 =>
 lenSli False a2 h fun v29 h =>
 binB False Tryz.prog .lss 3 false false (slot l28 122) v29 h fun v30 h =>
 CondW v30 (
 rs_3_1 a2 l28 v6 v13 v7 v10 N27 v29 v30 h κ) (
 κ (Value.bool true) h))

/-- latchstring/latchstringlaw11.BucketScript -/
theorem rs_3 (a0 a1 a2 : Value) (h : Heap) (κ : Value → Heap → Prop) : BodyW Tryz.prog 3 [a0, a1, a2] h κ = (
 CallW Tryz.prog 6 [] h fun v0 h =>
 unB False .not v0 h fun v1 h =>
 CondW v1 (
 κ (Value.bool false) h) (
 lenSli False a2 h fun v2 h =>
 binB False Tryz.prog .gtr 3 true false v2 (Value.int .i64 (50)) h fun v3 h =>
 CondW v3 (
 κ (Value.bool true) h) (
 rs_3_3 a1 a0 a2 h κ))) := by kernel_rfl

noncomputable def rs_7_0 (a0 : Value) (a1 : Value) (h : Heap) (κ : Value → Heap → Prop) : Prop :=
 binB False Tryz.prog .rem 3 false false a0 a1 h fun v1 h =>
 JoinR (fun N2 =>
 binB False Tryz.prog .lss 3 true false v1 (Value.int .i64 (0)) h fun v4 h =>
 CondW v4 (
 binB False Tryz.prog .add 3 false false v1 a1 h fun v5 h =>
 N2 [v1, v4, v1, a1, v5, v5] h) (
 N2 [v1, v4, undef, undef, undef, v1] h)) fun l3 h =>
 κ (slot l3 5) h

/-- latchstring/latchstringkit.Pick -/
theorem rs_7 (a0 a1 : Value) (h : Heap) (κ : Value → Heap → Prop) : BodyW Tryz.prog 7 [a0, a1] h κ = (
 binB False Tryz.prog .lss 3 true false a1 (Value.int .i64 (1)) h fun v0 h =>
 CondW v0 (
 κ (Value.int .i64 (0)) h) (
 rs_7_0 a0 a1 h κ)) := by kernel_rfl

/-- latchstring/latchstringlaw11.made -/
theorem rs_8 (a0 a1 : Value) (h : Heap) (κ : Value → Heap → Prop) : BodyW Tryz.prog 8 [a0, a1] h κ = (
 CallW Tryz.prog 32 [a1] h fun v0 h =>
 extractB False 0 v0 h fun v1 h =>
 extractB False 1 v0 h fun v2 h =>
 binB False Tryz.prog .neq 30 true false v2 (Value.int .i64 (0)) h fun v3 h =>
 CondW v3 (
 κ (Value.tuple (Array.mk [(Value.pointer none), (Value.pointer none), (Value.bool false)])) h) (
 CallW Tryz.prog 33 [a0, v1] h fun v4 h =>
 extractB False 0 v4 h fun v5 h =>
 extractB False 1 v4 h fun v6 h =>
 binB False Tryz.prog .eql 30 true false v6 (Value.int .i64 (0)) h fun v7 h =>
 κ (Value.tuple (Array.mk [v5, v1, v7])) h)) := by kernel_rfl

/-- latchstring/latchstringref10.New -/
theorem rs_9 (a0 : Value) (h : Heap) (κ : Value → Heap → Prop) : BodyW Tryz.prog 9 [a0] h κ = (
 binB False Tryz.prog .lss 3 true false a0 (Value.int .i64 (0)) h fun v0 h =>
 GuardW (wantV v0 false) (fun K1 =>
 K1 a0 h) h fun v2 h =>
 GuardW (wantV v0 false) (fun K3 =>
 binB False Tryz.prog .gtr 3 true false v2 (Value.int .i64 (128)) h K3) h fun v4 h =>
 pickB False v0 (Value.bool true) v4 h fun v5 h =>
 CondW v5 (
 κ (Value.tuple (Array.mk [(Value.pointer none), (Value.int .i64 (2))])) h) (
 mkSl False a0 a0 [(Value.bool false)] 4 h fun v8 h =>
 fillB False [(0, 1)] [v8] [(Value.slice none 0 0)] fun cs9 =>
 cellsK False (Value.cells (Value.agg (Array.mk cs9))).toList 75 false fun o10 => newBlock False o10 h fun b11 h =>
 κ (Value.tuple (Array.mk [(ptrTo b11), (Value.int .i64 (0))])) h)) := by kernel_rfl

/-- latchstring/latchstringref11.New -/
theorem rs_10 (a0 a1 : Value) (h : Heap) (κ : Value → Heap → Prop) : BodyW Tryz.prog 10 [a0, a1] h κ = (
 binB False Tryz.prog .lss 3 true false a0 (Value.int .i64 (1)) h fun v0 h =>
 GuardW (wantV v0 false) (fun K1 =>
 K1 a0 h) h fun v2 h =>
 GuardW (wantV v0 false) (fun K3 =>
 binB False Tryz.prog .gtr 3 true false v2 (Value.int .i64 (64)) h K3) h fun v4 h =>
 pickB False v0 (Value.bool true) v4 h fun v5 h =>
 GuardW (wantV v5 false) (fun K6 =>
 K6 a1 h) h fun v7 h =>
 GuardW (wantV v5 false) (fun K8 =>
 binB False Tryz.prog .eql 29 true false v7 (Value.pointer none) h K8) h fun v9 h =>
 pickB False v5 (Value.bool true) v9 h fun v10 h =>
 CondW v10 (
 κ (Value.tuple (Array.mk [(Value.pointer none), (Value.int .i64 (2))])) h) (
 fillB False [(0, 1), (1, 1)] [a0, a1] [(Value.int .i64 (0)), (Value.pointer none), (Value.slice none 0 0)] fun cs11 =>
 cellsK False (Value.cells (Value.agg (Array.mk cs11))).toList 77 false fun o12 => newBlock False o12 h fun b13 h =>
 κ (Value.tuple (Array.mk [(ptrTo b13), (Value.int .i64 (0))])) h)) := by kernel_rfl

noncomputable def rs_11_0 (a0 : Value) (b1 : Nat) (a1 : Value) (h : Heap) (κ : Value → Heap → Prop) : Prop :=
 RdK (some a0) h fun v67 h =>
 RdK (fieldAddrB none 3 (ptrTo b1) h fun v _ => some v) h fun v68 h =>
 RdK (load1 none v68 h fun v _ => some v) h fun v69 h =>
 RdK (fieldAddrB none 4 (ptrTo b1) h fun v _ => some v) h fun v70 h =>
 RdK (load1 none v70 h fun v _ => some v) h fun v71 h =>
 RdK (some a1) h fun v72 h =>
 RdK (fieldAddrB none 3 (ptrTo b1) h fun v _ => some v) h fun v73 h =>
 RdK (load1 none v73 h fun v _ => some v) h fun v74 h =>
 RdK (fieldAddrB none 4 (ptrTo b1) h fun v _ => some v) h fun v75 h =>
 RdK (load1 none v75 h fun v _ => some v) h fun v76 h =>
 CallW Tryz.prog 40 [v67, v69, v71] h fun v77 h =>
 SameK ((reV (some a1) v72) && ((reV (fieldAddrB none 3 (ptrTo b1) h fun v _ => some v) v73) && ((reV (load1 none v73 h fun v _ => some v) v74) && ((reV (fieldAddrB none 4 (ptrTo b1) h fun v _ => some v) v75) && ((reV (load1 none v75 h fun v _ => some v) v76) && true))))) (CallW Tryz.prog 41 [v72, v74, v76] h fun v78 h =>
 RdK (binB none Tryz.prog .eql 30 false false v77 v78 h fun v _ => some v) h fun v79 h =>
 κ v79 h)

noncomputable def rs_11_1 (b1 : Nat) (a0 : Value) (a1 : Value) (h : Heap) (κ : Value → Heap → Prop) : Prop :=
 fieldAddrB False 1 (ptrTo b1) h fun v80 h =>
 loadA False 2 v80 h fun v81 h =>
 fieldAddrB False 4 (ptrTo b1) h fun v82 h =>
 load1 False v82 h fun v83 h =>
 fieldAddrB False 5 (ptrTo b1) h fun v84 h =>
 load1 False v84 h fun v85 h =>
 CallW Tryz.prog 27 [a0, v81, v83, v85] h fun v86 h =>
 extractB False 0 v86 h fun v87 h =>
 extractB False 1 v86 h fun v88 h =>
 extractB False 2 v86 h fun v89 h =>
 fieldAddrB False 1 (ptrTo b1) h fun v90 h =>
 loadA False 2 v90 h fun v91 h =>
 fieldAddrB False 4 (ptrTo b1) h fun v92 h =>
 load1 False v92 h fun v93 h =>
 fieldAddrB False 5 (ptrTo b1) h fun v94 h =>
 load1 False v94 h fun v95 h =>
 CallW Tryz.prog 42 [a1, v91, v93, v95] h fun v96 h =>
 extractB False 0 v96 h fun v97 h =>
 extractB False 1 v96 h fun v98 h =>
 extractB False 2 v96 h fun v99 h =>
 binB False Tryz.prog .eql 3 false false v87 v97 h fun v100 h =>
 GuardW (wantV v100 true) (fun K101 =>
 K101 v88 h) h fun v102 h =>
 GuardW (wantV v100 true) (fun K103 =>
 K103 v98 h) h fun v104 h =>
 GuardW (wantV v100 true) (fun K105 =>
 binB False Tryz.prog .eql 4 false false v102 v104 h K105) h fun v106 h =>
 pickB False v100 v106 (Value.bool false) h fun v107 h =>
 GuardW (wantV v107 true) (fun K108 =>
 K108 v89 h) h fun v109 h =>
 GuardW (wantV v107 true) (fun K110 =>
 K110 v99 h) h fun v111 h =>
 GuardW (wantV v107 true) (fun K112 =>
 binB False Tryz.prog .eql 30 false false v109 v111 h K112) h fun v113 h =>
 pickB False v107 v113 (Value.bool false) h fun v114 h =>
 κ v114 h

noncomputable def rs_11_2 (b1 : Nat) (a0 : Value) (a1 : Value) (h : Heap) (κ : Value → Heap → Prop) : Prop :=
 fieldAddrB False 3 (ptrTo b1) h fun v48 h =>
 load1 False v48 h fun v49 h =>
 CallW Tryz.prog 38 [a0, v49] h fun v50 h =>
 extractB False 0 v50 h fun v51 h =>
 extractB False 1 v50 h fun v52 h =>
 fieldAddrB False 3 (ptrTo b1) h fun v53 h =>
 load1 False v53 h fun v54 h =>
 CallW Tryz.prog 39 [a1, v54] h fun v55 h =>
 extractB False 0 v55 h fun v56 h =>
 extractB False 1 v55 h fun v57 h =>
 CallW Tryz.prog 37 [v51, v56] h fun v58 h =>
 GuardW (wantV v58 true) (fun K59 =>
 K59 v52 h) h fun v60 h =>
 GuardW (wantV v58 true) (fun K61 =>
 K61 v57 h) h fun v62 h =>
 GuardW (wantV v58 true) (fun K63 =>
 binB False Tryz.prog .eql 30 false false v60 v62 h K63) h fun v64 h =>
 pickB False v58 v64 (Value.bool false) h fun v65 h =>
 κ v65 h

noncomputable def rs_11_3 (b1 : Nat) (a0 : Value) (a1 : Value) (h : Heap) (κ : Value → Heap → Prop) : Prop :=
 fieldAddrB False 3 (ptrTo b1) h fun v29 h =>
 load1 False v29 h fun v30 h =>
 CallW Tryz.prog 30 [a0, v30] h fun v31 h =>
 extractB False 0 v31 h fun v32 h =>
 extractB False 1 v31 h fun v33 h =>
 fieldAddrB False 3 (ptrTo b1) h fun v34 h =>
 load1 False v34 h fun v35 h =>
 CallW Tryz.prog 36 [a1, v35] h fun v36 h =>
 extractB False 0 v36 h fun v37 h =>
 extractB False 1 v36 h fun v38 h =>
 CallW Tryz.prog 37 [v32, v37] h fun v39 h =>
 GuardW (wantV v39 true) (fun K40 =>
 K40 v33 h) h fun v41 h =>
 GuardW (wantV v39 true) (fun K42 =>
 K42 v38 h) h fun v43 h =>
 GuardW (wantV v39 true) (fun K44 =>
 binB False Tryz.prog .eql 30 false false v41 v43 h K44) h fun v45 h =>
 pickB False v39 v45 (Value.bool false) h fun v46 h =>
 κ v46 h

noncomputable def rs_11_4 (v4 : Value) (b1 : Nat) (a0 : Value) (a1 : Value) (h : Heap) (κ : Value → Heap → Prop) : Prop :=
 binB False Tryz.prog .eql 3 true false v4 (Value.int .i64 (4)) h fun v47 h =>
 CondW v47 (
 rs_11_2 b1 a0 a1 h κ) (
 binB False Tryz.prog .eql 3 true false v4 (Value.int .i64 (5)) h fun v66 h =>
 CondW v66 (
 rs_11_0 a0 b1 a1 h κ) (
 rs_11_1 b1 a0 a1 h κ))

noncomputable def rs_11_5 (b1 : Nat) (a0 : Value) (a1 : Value) (h : Heap) (κ : Value → Heap → Prop) : Prop :=
 fieldAddrB False 3 (ptrTo b1) h fun v6 h =>
 load1 False v6 h fun v7 h =>
 fieldAddrB False 5 (ptrTo b1) h fun v8 h =>
 load1 False v8 h fun v9 h =>
 CallW Tryz.prog 34 [a0, v7, v9] h fun v10 h =>
 extractB False 0 v10 h fun v11 h =>
 extractB False 1 v10 h fun v12 h =>
 fieldAddrB False 3 (ptrTo b1) h fun v13 h =>
 load1 False v13 h fun v14 h =>
 fieldAddrB False 5 (ptrTo b1) h fun v15 h =>
 load1 False v15 h fun v16 h =>
 CallW Tryz.prog 35 [a1, v14, v16] h fun v17 h =>
 extractB False 0 v17 h fun v18 h =>
 extractB False 1 v17 h fun v19 h =>
 binB False Tryz.prog .eql 4 false false v11 v18 h fun v20 h =>
 GuardW (wantV v20 true) (fun K21 =>
 K21 v12 h) h fun v22 h =>
 GuardW (wantV v20 true) (fun K23 =>
 K23 v19 h) h fun v24 h =>
 GuardW (wantV v20 true) (fun K25 =>
 binB False Tryz.prog .eql 30 false false v22 v24 h K25) h fun v26 h =>
 pickB False v20 v26 (Value.bool false) h fun v27 h =>
 κ v27 h

/-- latchstring/latchstringlaw11.same -/
theorem rs_11 (a0 a1 a2 : Value) (h : Heap) (κ : Value → Heap → Prop) : BodyW Tryz.prog 11 [a0, a1, a2] h κ = (
 cellsK False (Value.cells a2).toList 41 false fun o0 => newBlock False o0 h fun b1 h =>
 fieldAddrB False 0 (ptrTo b1) h fun v2 h =>
 load1 False v2 h fun v3 h =>
 CallW Tryz.prog 7 [v3, (Value.int .i64 (6))] h fun v4 h =>
 binB False Tryz.prog .eql 3 true false v4 (Value.int .i64 (2)) h fun v5 h =>
 CondW v5 (
 rs_11_5 b1 a0 a1 h κ) (
 binB False Tryz.prog .eql 3 true false v4 (Value.int .i64 (3)) h fun v28 h =>
 CondW v28 (
 rs_11_3 b1 a0 a1 h κ) (
 rs_11_4 v4 b1 a0 a1 h κ))) := by kernel_rfl

noncomputable def rs_12_0 (a0 : Value) (l4 : List Value) (a1 : Value) (N3 : List Value → Heap → Prop) (v5 : Value) (v6 : Value) (h : Heap) (κ : Value → Heap → Prop) : Prop :=
 RdK (some a0) h fun v7 h =>
 RdK (some (slot l4 45)) h fun v8 h =>
 RdK (indexAddrS none 4 v7 v8 h fun v _ => some v) h fun v9 h =>
 RdK (fieldAddrB none 0 v9 h fun v _ => some v) h fun v10 h =>
 RdK (loadA none 2 v10 h fun v _ => some v) h fun v11 h =>
 RdK (some a1) h fun v12 h =>
 RdK (some (slot l4 45)) h fun v13 h =>
 RdK (indexAddrS none 4 v12 v13 h fun v _ => some v) h fun v14 h =>
 RdK (fieldAddrB none 0 v14 h fun v _ => some v) h fun v15 h =>
 RdK (loadA none 2 v15 h fun v _ => some v) h fun v16 h =>
 RdK (binB none Tryz.prog .neq 38 false false v11 v16 h fun v _ => some v) h fun v17 h =>
 RdK (some v17) h fun v18 h =>
 GuardW (wantV v18 false) (fun K19 =>
 RdK (some a0) h K19) h fun v20 h =>
 GuardW (wantV v18 false) (fun K21 =>
 RdK (some (slot l4 45)) h K21) h fun v22 h =>
 GuardW (wantV v18 false) (fun K23 =>
 RdK (indexAddrS none 4 v20 v22 h fun v _ => some v) h K23) h fun v24 h =>
 GuardW (wantV v18 false) (fun K25 =>
 RdK (fieldAddrB none 3 v24 h fun v _ => some v) h K25) h fun v26 h =>
 GuardW (wantV v18 false) (fun K27 =>
 RdK (load1 none v26 h fun v _ => some v) h K27) h fun v28 h =>
 GuardW (wantV v18 false) (fun K29 =>
 RdK (some a1) h K29) h fun v30 h =>
 GuardW (wantV v18 false) (fun K31 =>
 RdK (some (slot l4 45)) h K31) h fun v32 h =>
 GuardW (wantV v18 false) (fun K33 =>
 RdK (indexAddrS none 4 v30 v32 h fun v _ => some v) h K33) h fun v34 h =>
 GuardW (wantV v18 false) (fun K35 =>
 RdK (fieldAddrB none 3 v34 h fun v _ => some v) h K35) h fun v36 h =>
 GuardW (wantV v18 false) (fun K37 =>
 RdK (load1 none v36 h fun v _ => some v) h K37) h fun v38 h =>
 GuardW (wantV v18 false) (fun K39 =>
 RdK (binB none Tryz.prog .neq 3 false false v28 v38 h fun v _ => some v) h K39) h fun v40 h =>
 RdK (pickB none v18 (Value.bool true) v40 h fun v _ => some v) h fun v41 h =>
 RdK (some v41) h fun v42 h =>
 GuardW (wantV v42 false) (fun K43 =>
 RdK (some a0) h K43) h fun v44 h =>
 GuardW (wantV v42 false) (fun K45 =>
 RdK (some (slot l4 45)) h K45) h fun v46 h =>
 GuardW (wantV v42 false) (fun K47 =>
 RdK (indexAddrS none 4 v44 v46 h fun v _ => some v) h K47) h fun v48 h =>
 GuardW (wantV v42 false) (fun K49 =>
 RdK (fieldAddrB none 2 v48 h fun v _ => some v) h K49) h fun v50 h =>
 GuardW (wantV v42 false) (fun K51 =>
 RdK (load1 none v50 h fun v _ => some v) h K51) h fun v52 h =>
 GuardW (wantV v42 false) (fun K53 =>
 RdK (some a1) h K53) h fun v54 h =>
 GuardW (wantV v42 false) (fun K55 =>
 RdK (some (slot l4 45)) h K55) h fun v56 h =>
 GuardW (wantV v42 false) (fun K57 =>
 RdK (indexAddrS none 4 v54 v56 h fun v _ => some v) h K57) h fun v58 h =>
 GuardW (wantV v42 false) (fun K59 =>
 RdK (fieldAddrB none 2 v58 h fun v _ => some v) h K59) h fun v60 h =>
 GuardW (wantV v42 false) (fun K61 =>
 RdK (load1 none v60 h fun v _ => some v) h K61) h fun v62 h =>
 GuardW (wantV v42 false) (fun K63 =>
 CallW Tryz.prog 43 [v52, v62] h K63) h fun v64 h =>
 GuardW (wantV v42 false) (fun K65 =>
 RdK (unB none .not v64 h fun v _ => some v) h K65) h fun v66 h =>
 RdK (pickB none v42 (Value.bool true) v66 h fun v _ => some v) h fun v67 h =>
 CondW v67 (
 κ (Value.bool false) h) (
 binB False Tryz.prog .add 3 true false (slot l4 45) (Value.int .i64 (1)) h fun v68 h =>
 N3 [(slot l4 45), a0, v5, v6, v7, v8, v9, v10, v11, v12, v13, v14, v15, v16, v17, v18, v20, v22, v24, v26, v28, v30, v32, v34, v36, v38, v40, v41, v42, v44, v46, v48, v50, v52, v54, v56, v58, v60, v62, v64, v66, v67, (slot l4 42), (slot l4 45), v68, v68] h)

/-- latchstring/latchstringkit.SameHeads -/
theorem rs_12 (a0 a1 : Value) (h : Heap) (κ : Value → Heap → Prop) : BodyW Tryz.prog 12 [a0, a1] h κ = (
 lenSli False a0 h fun v0 h =>
 lenSli False a1 h fun v1 h =>
 binB False Tryz.prog .neq 3 false false v0 v1 h fun v2 h =>
 CondW v2 (
 κ (Value.bool false) h) (
 LoopR [undef, undef, undef, undef, undef, undef, undef, undef, undef, undef, undef, undef, undef, undef, undef, undef, undef, undef, undef, undef, undef, undef, undef, undef, undef, undef, undef, undef, undef, undef, undef, undef, undef, undef, undef, undef, undef, undef, undef, undef, undef, undef, (Value.bool false), undef, undef, (Value.int .i64 (0))] h fun l4 h N3 =>
 lenSli False a0 h fun v5 h =>
 binB False Tryz.prog .lss 3 false false (slot l4 45) v5 h fun v6 h =>
 CondW v6 (
 rs_12_0 a0 l4 a1 N3 v5 v6 h κ) (
 κ (Value.bool true) h))) := by kernel_rfl

noncomputable def rs_13_0 (v1 : Value) (l4 : List Value) (a0 : Value) (N3 : List Value → Heap → Prop) (v5 : Value) (h : Heap) : Prop :=
 indexAddrS False 2 v1 (slot l4 23) h fun v6 h =>
 loadA False 2 v6 h fun v7 h =>
 cellsK False [(Value.int .i64 (0)), (Value.int .i64 (0))] 38 false fun o8 => newBlock False o8 h fun b9 h =>
 storeV False 2 (ptrTo b9) v7 h fun v10 h =>
 RdK (some a0) h fun v11 h =>
 RdK (nilB none v11 h fun v _ => some v) h fun v12 h =>
 RdK (fieldAddrB none 2 v12 h fun v _ => some v) h fun v13 h =>
 RdK (load1 none v13 h fun v _ => some v) h fun v14 h =>
 RdK (loadA none 2 (ptrTo b9) h fun v _ => some v) h fun v15 h =>
 RdK (lookupB none Tryz.prog 38 (Value.pointer none) false v14 v15 h fun v _ => some v) h fun v16 h =>
 RdK (nilB none v16 h fun v _ => some v) h fun v17 h =>
 RdK (loadA none 4 v17 h fun v _ => some v) h fun v18 h =>
 AlK (cellsK none [(Value.int .i64 (0)), (Value.int .i64 (0)), (Value.slice none 0 0), (Value.int .i64 (0))] 56 false fun o => some (o, ptrTo)) h fun v19 h =>
 storeV False 4 v19 v18 h fun v20 h =>
 fieldAddrB False 2 v19 h fun v21 h =>
 load1 False v21 h fun v22 h =>
 CallW Tryz.prog 45 [v22] h fun v23 h =>
 fieldAddrB False 2 v19 h fun v24 h =>
 storeV False 1 v24 v23 h fun v25 h =>
 loadA False 4 v19 h fun v26 h =>
 fillB False [(0, 4)] [v26] (repeatL [(Value.int .i64 (0)), (Value.int .i64 (0)), (Value.slice none 0 0), (Value.int .i64 (0))] 1) fun cs29 => cellsK False cs29 56 false fun o27 => newBlock False o27 h fun b28 h =>
 appendB False 56 4 [(Value.int .i64 (0)), (Value.int .i64 (0)), (Value.slice none 0 0), (Value.int .i64 (0))] false (slot l4 21) (sliceTo 1 1 b28) h fun v30 h =>
 binB False Tryz.prog .add 3 true false (slot l4 23) (Value.int .i64 (1)) h fun v31 h =>
 N3 [v5, v6, v7, (ptrTo b9), v11, v12, v13, v14, v15, v16, v17, v18, v19, v21, v22, v23, v24, (slot l4 21), v26, (sliceTo 1 1 b28), v30, v30, v31, v31] h

noncomputable def rs_13_1 (a0 : Value) (h : Heap) (κ : Value → Heap → Prop) : Prop :=
 CallW Tryz.prog 44 [a0] h fun v1 h =>
 lenSli False v1 h fun v2 h =>
 LoopR [undef, undef, undef, undef, undef, undef, undef, undef, undef, undef, undef, undef, undef, undef, undef, undef, undef, undef, undef, undef, undef, (Value.slice none 0 0), undef, (Value.int .i64 (0))] h fun l4 h N3 =>
 binB False Tryz.prog .lss 3 false false (slot l4 23) v2 h fun v5 h =>
 CondW v5 (
 rs_13_0 v1 l4 a0 N3 v5 h) (
 κ (slot l4 21) h)

/-- (*latchstring/bucket.Bucket).Heads -/
theorem rs_13 (a0 : Value) (h : Heap) (κ : Value → Heap → Prop) : BodyW Tryz.prog 13 [a0] h κ = (
 binB False Tryz.prog .eql 25 true false a0 (Value.pointer none) h fun v0 h =>
 CondW v0 (
 κ (Value.slice none 0 0) h) (
 rs_13_1 a0 h κ)) := by kernel_rfl

noncomputable def rs_14_0 (a0 : Value) (l1 : List Value) (N0 : List Value → Heap → Prop) (v2 : Value) (v3 : Value) (v4 : Value) (v5 : Value) (v6 : Value) (h : Heap) : Prop :=
 nilB False a0 h fun v7 h =>
 fieldAddrB False 2 v7 h fun v8 h =>
 load1 False v8 h fun v9 h =>
 indexAddrS False 4 v9 (slot l1 27) h fun v10 h =>
 loadA False 4 v10 h fun v11 h =>
 cellsK False [(Value.int .i64 (0)), (Value.int .i64 (0)), (Value.slice none 0 0), (Value.int .i64 (0))] 56 false fun o12 => newBlock False o12 h fun b13 h =>
 storeV False 4 (ptrTo b13) v11 h fun v14 h =>
 fillB False [] [] (repeatL [(Value.int .i64 (0)), (Value.int .i64 (0)), (Value.int .i64 (0)), (Value.int .i64 (0)), (Value.int .i64 (0))] 0) fun cs17 => cellsK False cs17 47 false fun o15 => newBlock False o15 h fun b16 h =>
 fieldAddrB False 2 (ptrTo b13) h fun v18 h =>
 load1 False v18 h fun v19 h =>
 appendB False 47 5 [(Value.int .i64 (0)), (Value.int .i64 (0)), (Value.int .i64 (0)), (Value.int .i64 (0)), (Value.int .i64 (0))] false (sliceTo 0 0 b16) v19 h fun v20 h =>
 fieldAddrB False 2 (ptrTo b13) h fun v21 h =>
 storeV False 1 v21 v20 h fun v22 h =>
 loadA False 4 (ptrTo b13) h fun v23 h =>
 fillB False [(0, 4)] [v23] (repeatL [(Value.int .i64 (0)), (Value.int .i64 (0)), (Value.slice none 0 0), (Value.int .i64 (0))] 1) fun cs26 => cellsK False cs26 56 false fun o24 => newBlock False o24 h fun b25 h =>
 appendB False 56 4 [(Value.int .i64 (0)), (Value.int .i64 (0)), (Value.slice none 0 0), (Value.int .i64 (0))] false (slot l1 24) (sliceTo 1 1 b25) h fun v27 h =>
 binB False Tryz.prog .add 3 true false (slot l1 27) (Value.int .i64 (1)) h fun v28 h =>
 N0 [(slot l1 27), a0, v2, v3, v4, v5, v6, a0, v7, v8, v9, (slot l1 27), v10, v11, (ptrTo b13), (sliceTo 0 0 b16), v18, v19, v20, v21, (slot l1 24), v23, (sliceTo 1 1 b25), v27, v27, (slot l1 27), v28, v28] h

noncomputable def rs_14_1 (a0 : Value) (l1 : List Value) (N0 : List Value → Heap → Prop) (h : Heap) (κ : Value → Heap → Prop) : Prop :=
 nilB False a0 h fun v2 h =>
 fieldAddrB False 2 v2 h fun v3 h =>
 load1 False v3 h fun v4 h =>
 lenSli False v4 h fun v5 h =>
 binB False Tryz.prog .lss 3 false false (slot l1 27) v5 h fun v6 h =>
 CondW v6 (
 rs_14_0 a0 l1 N0 v2 v3 v4 v5 v6 h) (
 κ (slot l1 24) h)

/-- (*latchstring/latchstringref11.Bucket).Heads -/
theorem rs_14 (a0 : Value) (h : Heap) (κ : Value → Heap → Prop) : BodyW Tryz.prog 14 [a0] h κ = (
 LoopR [undef, undef, undef, undef, undef, undef, undef, undef, undef, undef, undef, undef, undef, undef, undef, undef, undef, undef, undef, undef, undef, undef, undef, undef, (Value.slice none 0 0), undef, undef, (Value.int .i64 (0))] h fun l1 h N0 =>
 rs_14_1 a0 l1 N0 h κ) := by kernel_rfl

/-- (*latchstring/bucket.Bucket).Len -/
theorem rs_15 (a0 : Value) (h : Heap) (κ : Value → Heap → Prop) : BodyW Tryz.prog 15 [a0] h κ = (
 binB False Tryz.prog .eql 25 true false a0 (Value.pointer none) h fun v0 h =>
 CondW v0 (
 κ (Value.int .i64 (0)) h) (
 nilB False a0 h fun v1 h =>
 fieldAddrB False 2 v1 h fun v2 h =>
 load1 False v2 h fun v3 h =>
 lenMap False v3 h fun v4 h =>
 κ v4 h)) := by kernel_rfl

/-- (*latchstring/latchstringref11.Bucket).Len -/
theorem rs_16 (a0 : Value) (h : Heap) (κ : Value → Heap → Prop) : BodyW Tryz.prog 16 [a0] h κ = (
 nilB False a0 h fun v0 h =>
 fieldAddrB False 2 v0 h fun v1 h =>
 load1 False v1 h fun v2 h =>
 lenSli False v2 h fun v3 h =>
 κ v3 h) := by kernel_rfl

noncomputable def rs_17_0 (a0 : Value) (h : Heap) (κ : Value → Heap → Prop) : Prop :=
 RdK (some a0) h fun v1 h =>
 RdK (nilB none v1 h fun v _ => some v) h fun v2 h =>
 RdK (fieldAddrB none 1 v2 h fun v _ => some v) h fun v3 h =>
 RdK (load1 none v3 h fun v _ => some v) h fun v4 h =>
 RdK (lenSli none v4 h fun v _ => some v) h fun v5 h =>
 RdK (some a0) h fun v6 h =>
 RdK (nilB none v6 h fun v _ => some v) h fun v7 h =>
 RdK (fieldAddrB none 0 v7 h fun v _ => some v) h fun v8 h =>
 RdK (fieldAddrB none 0 v8 h fun v _ => some v) h fun v9 h =>
 RdK (load1 none v9 h fun v _ => some v) h fun v10 h =>
 CallW Tryz.prog 46 [v10] h fun v11 h =>
 SameK ((reV (some a0) v1) && ((reV (nilB none v1 h fun v _ => some v) v2) && ((reV (fieldAddrB none 1 v2 h fun v _ => some v) v3) && ((reV (load1 none v3 h fun v _ => some v) v4) && ((reV (lenSli none v4 h fun v _ => some v) v5) && true))))) (RdK (binB none Tryz.prog .sub 3 false false v5 v11 h fun v _ => some v) h fun v12 h =>
 κ v12 h)

/-- (*latchstring/pool.Pool).Live -/
theorem rs_17 (a0 : Value) (h : Heap) (κ : Value → Heap → Prop) : BodyW Tryz.prog 17 [a0] h κ = (
 binB False Tryz.prog .eql 26 true false a0 (Value.pointer none) h fun v0 h =>
 CondW v0 (
 κ (Value.int .i64 (0)) h) (
 rs_17_0 a0 h κ)) := by kernel_rfl

/-- (*latchstring/latchstringref10.Pool).Live -/
theorem rs_18 (a0 : Value) (h : Heap) (κ : Value → Heap → Prop) : BodyW Tryz.prog 18 [a0] h κ = (
 CallW Tryz.prog 47 [a0] h fun v0 h =>
 lenSli False v0 h fun v1 h =>
 κ v1 h) := by kernel_rfl

noncomputable def rs_19_0 (v4 : Value) (a1 : Value) (b1 : Nat) (b3 : Nat) (h : Heap) (κ : Value → Heap → Prop) : Prop :=
 nilB False v4 h fun v12 h =>
 loadA False 4 v12 h fun v13 h =>
 CallW Tryz.prog 49 [v13, a1] h fun v14 h =>
 extractB False 0 v14 h fun v15 h =>
 extractB False 1 v14 h fun v16 h =>
 cellsK False [(Value.int .i64 (0)), (Value.int .i64 (0)), (Value.int .i64 (0)), (Value.int .i64 (0)), (Value.int .i64 (0))] 47 false fun o17 => newBlock False o17 h fun b18 h =>
 storeV False 5 (ptrTo b18) v15 h fun v19 h =>
 RdK (some v4) h fun v20 h =>
 RdK (nilB none v20 h fun v _ => some v) h fun v21 h =>
 RdK (fieldAddrB none 0 v21 h fun v _ => some v) h fun v22 h =>
 RdK (loadA none 2 v22 h fun v _ => some v) h fun v23 h =>
 RdK (loadA none 5 (ptrTo b18) h fun v _ => some v) h fun v24 h =>
 RdK (some v16) h fun v25 h =>
 storeV False 2 (ptrTo b1) v23 h fun v26 h =>
 SameK ((reV (loadA none 5 (ptrTo b18) h fun v _ => some v) v24) && ((reV (some v16) v25) && true)) (storeV False 5 (ptrTo b3) v24 h fun v27 h =>
 SameK ((reV (some v16) v25) && true) (loadA False 2 (ptrTo b1) h fun v28 _ => loadA False 5 (ptrTo b3) h fun v29 _ => κ (Value.tuple (Array.mk [v28, v29, v25])) h))

/-- (*latchstring/bucket.Bucket).Get -/
theorem rs_19 (a0 a1 : Value) (h : Heap) (κ : Value → Heap → Prop) : BodyW Tryz.prog 19 [a0, a1] h κ = (
 cellsK False [(Value.int .i64 (0)), (Value.int .i64 (0))] 38 false fun o0 => newBlock False o0 h fun b1 h =>
 cellsK False [(Value.int .i64 (0)), (Value.int .i64 (0)), (Value.int .i64 (0)), (Value.int .i64 (0)), (Value.int .i64 (0))] 47 false fun o2 => newBlock False o2 h fun b3 h =>
 CallW Tryz.prog 48 [a0, a1] h fun v4 h =>
 binB False Tryz.prog .eql 85 true false v4 (Value.pointer none) h fun v5 h =>
 CondW v5 (
 fillB False [] [] [(Value.int .i64 (0)), (Value.int .i64 (0))] fun cs6 =>
 fillB False [] [] [(Value.int .i64 (0)), (Value.int .i64 (0)), (Value.int .i64 (0)), (Value.int .i64 (0)), (Value.int .i64 (0))] fun cs7 =>
 storeV False 2 (ptrTo b1) (Value.agg (Array.mk cs6)) h fun v8 h =>
 storeV False 5 (ptrTo b3) (Value.agg (Array.mk cs7)) h fun v9 h =>
 loadA False 2 (ptrTo b1) h fun v10 _ => loadA False 5 (ptrTo b3) h fun v11 _ => κ (Value.tuple (Array.mk [v10, v11, (Value.bool false)])) h) (
 rs_19_0 v4 a1 b1 b3 h κ)) := by kernel_rfl

noncomputable def rs_20_0 (a0 : Value) (v4 : Value) (a1 : Value) (b1 : Nat) (b3 : Nat) (h : Heap) (κ : Value → Heap → Prop) : Prop :=
 nilB False a0 h fun v12 h =>
 fieldAddrB False 2 v12 h fun v13 h =>
 load1 False v13 h fun v14 h =>
 indexAddrS False 4 v14 v4 h fun v15 h =>
 loadA False 4 v15 h fun v16 h =>
 CallW Tryz.prog 51 [v16, a1] h fun v17 h =>
 extractB False 0 v17 h fun v18 h =>
 extractB False 1 v17 h fun v19 h =>
 cellsK False [(Value.int .i64 (0)), (Value.int .i64 (0)), (Value.int .i64 (0)), (Value.int .i64 (0)), (Value.int .i64 (0))] 47 false fun o20 => newBlock False o20 h fun b21 h =>
 storeV False 5 (ptrTo b21) v18 h fun v22 h =>
 RdK (some a0) h fun v23 h =>
 RdK (nilB none v23 h fun v _ => some v) h fun v24 h =>
 RdK (fieldAddrB none 2 v24 h fun v _ => some v) h fun v25 h =>
 RdK (load1 none v25 h fun v _ => some v) h fun v26 h =>
 RdK (some v4) h fun v27 h =>
 RdK (indexAddrS none 4 v26 v27 h fun v _ => some v) h fun v28 h =>
 RdK (fieldAddrB none 0 v28 h fun v _ => some v) h fun v29 h =>
 RdK (loadA none 2 v29 h fun v _ => some v) h fun v30 h =>
 RdK (loadA none 5 (ptrTo b21) h fun v _ => some v) h fun v31 h =>
 storeV False 2 (ptrTo b1) v30 h fun v32 h =>
 SameK ((reV (loadA none 5 (ptrTo b21) h fun v _ => some v) v31) && true) (storeV False 5 (ptrTo b3) v31 h fun v33 h =>
 loadA False 2 (ptrTo b1) h fun v34 _ => loadA False 5 (ptrTo b3) h fun v35 _ => κ (Value.tuple (Array.mk [v34, v35, (Value.bool true)])) h)

/-- (*latchstring/latchstringref11.Bucket).Get -/
theorem rs_20 (a0 a1 : Value) (h : Heap) (κ : Value → Heap → Prop) : BodyW Tryz.prog 20 [a0, a1] h κ = (
 cellsK False [(Value.int .i64 (0)), (Value.int .i64 (0))] 38 false fun o0 => newBlock False o0 h fun b1 h =>
 cellsK False [(Value.int .i64 (0)), (Value.int .i64 (0)), (Value.int .i64 (0)), (Value.int .i64 (0)), (Value.int .i64 (0))] 47 false fun o2 => newBlock False o2 h fun b3 h =>
 CallW Tryz.prog 50 [a0, a1] h fun v4 h =>
 binB False Tryz.prog .lss 3 true false v4 (Value.int .i64 (0)) h fun v5 h =>
 CondW v5 (
 fillB False [] [] [(Value.int .i64 (0)), (Value.int .i64 (0))] fun cs6 =>
 fillB False [] [] [(Value.int .i64 (0)), (Value.int .i64 (0)), (Value.int .i64 (0)), (Value.int .i64 (0)), (Value.int .i64 (0))] fun cs7 =>
 storeV False 2 (ptrTo b1) (Value.agg (Array.mk cs6)) h fun v8 h =>
 storeV False 5 (ptrTo b3) (Value.agg (Array.mk cs7)) h fun v9 h =>
 loadA False 2 (ptrTo b1) h fun v10 _ => loadA False 5 (ptrTo b3) h fun v11 _ => κ (Value.tuple (Array.mk [v10, v11, (Value.bool false)])) h) (
 rs_20_0 a0 v4 a1 b1 b3 h κ)) := by kernel_rfl

noncomputable def rs_21_0 (v12 : Value) (v18 : Value) (h : Heap) (κ : Value → Heap → Prop) : Prop :=
 nilB False v12 h fun v20 h =>
 fieldAddrB False 2 v20 h fun v21 h =>
 load1 False v21 h fun v22 h =>
 indexAddrS False 5 v22 v18 h fun v23 h =>
 fieldAddrB False 0 v23 h fun v24 h =>
 load1 False v24 h fun v25 h =>
 κ (Value.tuple (Array.mk [v25, (Value.bool true)])) h

noncomputable def rs_21_1 (v12 : Value) (b3 : Nat) (h : Heap) (κ : Value → Heap → Prop) : Prop :=
 nilB False v12 h fun v15 h =>
 fieldAddrB False 2 v15 h fun v16 h =>
 load1 False v16 h fun v17 h =>
 CallW Tryz.prog 52 [v17, (Value.func (.func 53) (Array.mk []) (Array.mk [(ptrTo b3)]))] h fun v18 h =>
 binB False Tryz.prog .lss 3 true false v18 (Value.int .i64 (0)) h fun v19 h =>
 CondW v19 (
 κ (Value.tuple (Array.mk [(Value.int .i64 (0)), (Value.bool false)])) h) (
 rs_21_0 v12 v18 h κ)

noncomputable def rs_21_2 (a0 : Value) (b1 : Nat) (b3 : Nat) (h : Heap) (κ : Value → Heap → Prop) : Prop :=
 RdK (some a0) h fun v5 h =>
 RdK (nilB none v5 h fun v _ => some v) h fun v6 h =>
 RdK (fieldAddrB none 2 v6 h fun v _ => some v) h fun v7 h =>
 RdK (load1 none v7 h fun v _ => some v) h fun v8 h =>
 RdK (loadA none 2 (ptrTo b1) h fun v _ => some v) h fun v9 h =>
 RdK (lookupB none Tryz.prog 38 (Value.pointer none) true v8 v9 h fun v _ => some v) h fun v10 h =>
 RdK (some v10) h fun v11 h =>
 RdK (extractB none 0 v11 h fun v _ => some v) h fun v12 h =>
 RdK (extractB none 1 v11 h fun v _ => some v) h fun v13 h =>
 SameK ((reV (extractB none 1 v11 h fun v _ => some v) v13) && true) (unB False .not v13 h fun v14 h =>
 CondW v14 (
 κ (Value.tuple (Array.mk [(Value.int .i64 (0)), (Value.bool false)])) h) (
 rs_21_1 v12 b3 h κ))

/-- (*latchstring/bucket.Bucket).Find -/
theorem rs_21 (a0 a1 a2 : Value) (h : Heap) (κ : Value → Heap → Prop) : BodyW Tryz.prog 21 [a0, a1, a2] h κ = (
 cellsK False (Value.cells a1).toList 38 false fun o0 => newBlock False o0 h fun b1 h =>
 cellsK False (Value.cells a2).toList 3 false fun o2 => newBlock False o2 h fun b3 h =>
 binB False Tryz.prog .eql 25 true false a0 (Value.pointer none) h fun v4 h =>
 CondW v4 (
 κ (Value.tuple (Array.mk [(Value.int .i64 (0)), (Value.bool false)])) h) (
 rs_21_2 a0 b1 b3 h κ)) := by kernel_rfl

noncomputable def rs_22_0 (a0 : Value) (v4 : Value) (l8 : List Value) (h : Heap) (κ : Value → Heap → Prop) : Prop :=
 nilB False a0 h fun v27 h =>
 fieldAddrB False 2 v27 h fun v28 h =>
 load1 False v28 h fun v29 h =>
 indexAddrS False 4 v29 v4 h fun v30 h =>
 fieldAddrB False 2 v30 h fun v31 h =>
 load1 False v31 h fun v32 h =>
 indexAddrS False 5 v32 (slot l8 41) h fun v33 h =>
 fieldAddrB False 0 v33 h fun v34 h =>
 load1 False v34 h fun v35 h =>
 κ (Value.tuple (Array.mk [v35, (Value.bool true)])) h

noncomputable def rs_22_1 (a0 : Value) (v4 : Value) (l8 : List Value) (a2 : Value) (N7 : List Value → Heap → Prop) (v9 : Value) (v10 : Value) (v11 : Value) (v12 : Value) (v13 : Value) (v14 : Value) (v15 : Value) (v16 : Value) (h : Heap) (κ : Value → Heap → Prop) : Prop :=
 nilB False a0 h fun v17 h =>
 fieldAddrB False 2 v17 h fun v18 h =>
 load1 False v18 h fun v19 h =>
 indexAddrS False 4 v19 v4 h fun v20 h =>
 fieldAddrB False 2 v20 h fun v21 h =>
 load1 False v21 h fun v22 h =>
 indexAddrS False 5 v22 (slot l8 41) h fun v23 h =>
 fieldAddrB False 1 v23 h fun v24 h =>
 load1 False v24 h fun v25 h =>
 binB False Tryz.prog .eql 3 false false v25 a2 h fun v26 h =>
 CondW v26 (
 rs_22_0 a0 v4 l8 h κ) (
 binB False Tryz.prog .add 3 true false (slot l8 41) (Value.int .i64 (1)) h fun v36 h =>
 N7 [(slot l8 41), a0, v9, v10, v11, v4, v12, v13, v14, v15, v16, a0, v17, v18, v19, v4, v20, v21, v22, (slot l8 41), v23, v24, v25, a2, v26, (slot l8 25), (slot l8 26), (slot l8 27), (slot l8 28), (slot l8 29), (slot l8 30), (slot l8 31), (slot l8 32), (slot l8 33), (slot l8 34), (slot l8 35), (slot l8 36), (slot l8 37), (slot l8 38), (slot l8 41), v36, v36] h)

noncomputable def rs_22_2 (a0 : Value) (v4 : Value) (l8 : List Value) (a2 : Value) (N7 : List Value → Heap → Prop) (h : Heap) (κ : Value → Heap → Prop) : Prop :=
 nilB False a0 h fun v9 h =>
 fieldAddrB False 2 v9 h fun v10 h =>
 load1 False v10 h fun v11 h =>
 indexAddrS False 4 v11 v4 h fun v12 h =>
 fieldAddrB False 2 v12 h fun v13 h =>
 load1 False v13 h fun v14 h =>
 lenSli False v14 h fun v15 h =>
 binB False Tryz.prog .lss 3 false false (slot l8 41) v15 h fun v16 h =>
 CondW v16 (
 rs_22_1 a0 v4 l8 a2 N7 v9 v10 v11 v12 v13 v14 v15 v16 h κ) (
 κ (Value.tuple (Array.mk [(Value.int .i64 (0)), (Value.bool false)])) h)

/-- (*latchstring/latchstringref11.Bucket).Find -/
theorem rs_22 (a0 a1 a2 : Value) (h : Heap) (κ : Value → Heap → Prop) : BodyW Tryz.prog 22 [a0, a1, a2] h κ = (
 cellsK False (Value.cells a1).toList 38 false fun o0 => newBlock False o0 h fun b1 h =>
 loadA False 2 (ptrTo b1) h fun v2 h =>
 CallW Tryz.prog 54 [a0, v2] h fun v3 h =>
 extractB False 0 v3 h fun v4 h =>
 extractB False 1 v3 h fun v5 h =>
 unB False .not v5 h fun v6 h =>
 CondW v6 (
 κ (Value.tuple (Array.mk [(Value.int .i64 (0)), (Value.bool false)])) h) (
 LoopR [undef, undef, undef, undef, undef, undef, undef, undef, undef, undef, undef, undef, undef, undef, undef, undef, undef, undef, undef, undef, undef, undef, undef, undef, undef, undef, undef, undef, undef, undef, undef, undef, undef, undef, undef, undef, undef, (Value.int .i64 (0)), (Value.bool false), undef, undef, (Value.int .i64 (0))] h fun l8 h N7 =>
 rs_22_2 a0 v4 l8 a2 N7 h κ)) := by kernel_rfl

noncomputable def rs_24_0 (b7 : Nat) (l14 : List Value) (l10 : List Value) (N9 : List Value → Heap → Prop) (v11 : Value) (v12 : Value) (v18 : Value) (v19 : Value) (v20 : Value) (v22 : Value) (v24 : Value) (v26 : Value) (v28 : Value) (v30 : Value) (v32 : Value) (v34 : Value) (v36 : Value) (v38 : Value) (v40 : Value) (v41 : Value) (h : Heap) : Prop :=
 RdK (fieldAddrB none 2 (ptrTo b7) h fun v _ => some v) h fun v45 h =>
 RdK (load1 none v45 h fun v _ => some v) h fun v46 h =>
 RdK (some (slot l14 4)) h fun v47 h =>
 RdK (fieldAddrB none 2 (ptrTo b7) h fun v _ => some v) h fun v48 h =>
 RdK (load1 none v48 h fun v _ => some v) h fun v49 h =>
 RdK (some (slot l14 4)) h fun v50 h =>
 RdK (fieldAddrB none 2 (ptrTo b7) h fun v _ => some v) h fun v51 h =>
 RdK (load1 none v51 h fun v _ => some v) h fun v52 h =>
 RdK (some (slot l14 4)) h fun v53 h =>
 RdK (indexAddrS none 5 v52 v53 h fun v _ => some v) h fun v54 h =>
 RdK (fieldAddrB none 3 v54 h fun v _ => some v) h fun v55 h =>
 RdK (load1 none v55 h fun v _ => some v) h fun v56 h =>
 RdK (indexAddrS none 5 v46 v47 h fun v _ => some v) h fun v57 h =>
 RdK (fieldAddrB none 2 v57 h fun v _ => some v) h fun v58 h =>
 storeV False 1 v58 v56 h fun v59 h =>
 SameK ((reV (fieldAddrB none 2 (ptrTo b7) h fun v _ => some v) v48) && ((reV (load1 none v48 h fun v _ => some v) v49) && ((reV (some (slot l14 4)) v50) && true))) (RdK (indexAddrS none 5 v49 v50 h fun v _ => some v) h fun v60 h =>
 RdK (fieldAddrB none 4 v60 h fun v _ => some v) h fun v61 h =>
 storeV False 1 v61 (Value.int .i64 (0)) h fun v62 h =>
 fieldAddrB False 2 (ptrTo b7) h fun v63 h =>
 load1 False v63 h fun v64 h =>
 indexAddrS False 5 v64 (slot l14 4) h fun v65 h =>
 fieldAddrB False 0 v65 h fun v66 h =>
 load1 False v66 h fun v67 h =>
 fillB False [(0, 1)] [v67] (repeatL [(Value.int .i64 (0))] 1) fun cs70 => cellsK False cs70 3 false fun o68 => newBlock False o68 h fun b69 h =>
 appendB False 3 1 [(Value.int .i64 (0))] false (slot l10 49) (sliceTo 1 1 b69) h fun v71 h =>
 N9 [v11, v12, (slot l14 0), (slot l14 1), (slot l14 2), (slot l14 3), (slot l14 4), v18, v19, v20, v22, v24, v26, v28, v30, v32, v34, v36, v38, v40, v41, (slot l10 21), (slot l10 22), (slot l10 23), v45, v46, v47, v48, v49, v50, v51, v52, v53, v54, v55, v56, v57, v58, v60, v61, (slot l10 49), v63, v64, (slot l14 4), v65, v66, v67, (sliceTo 1 1 b69), v71, v71] h)

noncomputable def rs_24_1 (l14 : List Value) (b7 : Nat) (b3 : Nat) (l10 : List Value) (N9 : List Value → Heap → Prop) (v11 : Value) (v12 : Value) (h : Heap) (κ : Value → Heap → Prop) : Prop :=
 RdK (some (slot l14 4)) h fun v18 h =>
 RdK (binB none Tryz.prog .lss 3 true false v18 (Value.int .i64 (0)) h fun v _ => some v) h fun v19 h =>
 RdK (some v19) h fun v20 h =>
 GuardW (wantV v20 false) (fun K21 =>
 RdK (loadA none 4 (ptrTo b7) h fun v _ => some v) h K21) h fun v22 h =>
 GuardW (wantV v20 false) (fun K23 =>
 RdK (fieldAddrB none 2 (ptrTo b7) h fun v _ => some v) h K23) h fun v24 h =>
 GuardW (wantV v20 false) (fun K25 =>
 RdK (load1 none v24 h fun v _ => some v) h K25) h fun v26 h =>
 GuardW (wantV v20 false) (fun K27 =>
 RdK (some (slot l14 4)) h K27) h fun v28 h =>
 GuardW (wantV v20 false) (fun K29 =>
 RdK (indexAddrS none 5 v26 v28 h fun v _ => some v) h K29) h fun v30 h =>
 GuardW (wantV v20 false) (fun K31 =>
 RdK (fieldAddrB none 3 v30 h fun v _ => some v) h K31) h fun v32 h =>
 GuardW (wantV v20 false) (fun K33 =>
 RdK (load1 none v32 h fun v _ => some v) h K33) h fun v34 h =>
 GuardW (wantV v20 false) (fun K35 =>
 RdK (some (slot l14 4)) h K35) h fun v36 h =>
 GuardW (wantV v20 false) (fun K37 =>
 CallW Tryz.prog 58 [v22, v34, v36] h K37) h fun v38 h =>
 GuardW (wantV v20 false) (fun K39 =>
 RdK (unB none .not v38 h fun v _ => some v) h K39) h fun v40 h =>
 RdK (pickB none v20 (Value.bool true) v40 h fun v _ => some v) h fun v41 h =>
 CondW v41 (
 loadA False 4 (ptrTo b7) h fun v42 h =>
 storeV False 4 (ptrTo b3) v42 h fun v43 h =>
 loadA False 4 (ptrTo b3) h fun v44 _ => κ (Value.tuple (Array.mk [v44, (slot l10 49)])) h) (
 rs_24_0 b7 l14 l10 N9 v11 v12 v18 v19 v20 v22 v24 v26 v28 v30 v32 v34 v36 v38 v40 v41 h)

noncomputable def rs_24_2 (b7 : Nat) (l10 : List Value) (b3 : Nat) (N9 : List Value → Heap → Prop) (h : Heap) (κ : Value → Heap → Prop) : Prop :=
 loadA False 4 (ptrTo b7) h fun v11 h =>
 CallW Tryz.prog 56 [v11] h fun v12 h =>
 JoinR (fun N13 =>
 binB False Tryz.prog .lss 3 true false v12 (Value.int .i64 (0)) h fun v15 h =>
 CondW v15 (
 loadA False 4 (ptrTo b7) h fun v16 h =>
 CallW Tryz.prog 57 [v16] h fun v17 h =>
 N13 [v12, v15, v16, v17, v17] h) (
 N13 [v12, v15, (slot l10 4), (slot l10 5), v12] h)) fun l14 h =>
 rs_24_1 l14 b7 b3 l10 N9 v11 v12 h κ

/-- latchstring/latchstringref09.Scan -/
theorem rs_24 (a0 : Value) (h : Heap) (κ : Value → Heap → Prop) : BodyW Tryz.prog 24 [a0] h κ = (
 cellsK False (Value.cells a0).toList 56 false fun o0 => newBlock False o0 h fun b1 h =>
 cellsK False [(Value.int .i64 (0)), (Value.int .i64 (0)), (Value.slice none 0 0), (Value.int .i64 (0))] 56 false fun o2 => newBlock False o2 h fun b3 h =>
 loadA False 4 (ptrTo b1) h fun v4 h =>
 CallW Tryz.prog 55 [v4] h fun v5 h =>
 cellsK False [(Value.int .i64 (0)), (Value.int .i64 (0)), (Value.slice none 0 0), (Value.int .i64 (0))] 56 false fun o6 => newBlock False o6 h fun b7 h =>
 storeV False 4 (ptrTo b7) v5 h fun v8 h =>
 LoopR [undef, undef, undef, undef, undef, undef, undef, undef, undef, undef, undef, undef, undef, undef, undef, undef, undef, undef, undef, undef, undef, undef, undef, (Value.slice none 0 0), undef, undef, undef, undef, undef, undef, undef, undef, undef, undef, undef, undef, undef, undef, undef, undef, undef, undef, undef, undef, undef, undef, undef, undef, undef, (Value.slice none 0 0)] h fun l10 h N9 =>
 rs_24_2 b7 l10 b3 N9 h κ) := by kernel_rfl

/-- (*latchstring/pool.Pool).Has -/
theorem rs_26 (a0 a1 : Value) (h : Heap) (κ : Value → Heap → Prop) : BodyW Tryz.prog 26 [a0, a1] h κ = (
 binB False Tryz.prog .neq 26 true false a0 (Value.pointer none) h fun v0 h =>
 GuardW (wantV v0 true) (fun K1 =>
 K1 a1 h) h fun v2 h =>
 GuardW (wantV v0 true) (fun K3 =>
 binB False Tryz.prog .geq 3 true false v2 (Value.int .i64 (0)) h K3) h fun v4 h =>
 pickB False v0 v4 (Value.bool false) h fun v5 h =>
 GuardW (wantV v5 true) (fun K6 =>
 K6 a1 h) h fun v7 h =>
 GuardW (wantV v5 true) (fun K8 =>
 K8 a0 h) h fun v9 h =>
 GuardW (wantV v5 true) (fun K10 =>
 nilB False v9 h K10) h fun v11 h =>
 GuardW (wantV v5 true) (fun K12 =>
 fieldAddrB False 1 v11 h K12) h fun v13 h =>
 GuardW (wantV v5 true) (fun K14 =>
 load1 False v13 h K14) h fun v15 h =>
 GuardW (wantV v5 true) (fun K16 =>
 lenSli False v15 h K16) h fun v17 h =>
 GuardW (wantV v5 true) (fun K18 =>
 binB False Tryz.prog .lss 3 false false v7 v17 h K18) h fun v19 h =>
 pickB False v5 v19 (Value.bool false) h fun v20 h =>
 GuardW (wantV v20 true) (fun K21 =>
 K21 a0 h) h fun v22 h =>
 GuardW (wantV v20 true) (fun K23 =>
 nilB False v22 h K23) h fun v24 h =>
 GuardW (wantV v20 true) (fun K25 =>
 fieldAddrB False 1 v24 h K25) h fun v26 h =>
 GuardW (wantV v20 true) (fun K27 =>
 load1 False v26 h K27) h fun v28 h =>
 GuardW (wantV v20 true) (fun K29 =>
 K29 a1 h) h fun v30 h =>
 GuardW (wantV v20 true) (fun K31 =>
 indexAddrS False 1 v28 v30 h K31) h fun v32 h =>
 GuardW (wantV v20 true) (fun K33 =>
 load1 False v32 h K33) h fun v34 h =>
 pickB False v20 v34 (Value.bool false) h fun v35 h =>
 κ v35 h) := by kernel_rfl

noncomputable def rs_27_0 (a0 : Value) (b1 : Nat) (N24 : List Value → Heap → Prop) (v23 : Value) (v26 : Value) (h : Heap) (κ : Value → Heap → Prop) : Prop :=
 RdK (some a0) h fun v27 h =>
 RdK (nilB none v27 h fun v _ => some v) h fun v28 h =>
 RdK (fieldAddrB none 2 v28 h fun v _ => some v) h fun v29 h =>
 RdK (load1 none v29 h fun v _ => some v) h fun v30 h =>
 RdK (lenMap none v30 h fun v _ => some v) h fun v31 h =>
 RdK (some a0) h fun v32 h =>
 RdK (nilB none v32 h fun v _ => some v) h fun v33 h =>
 RdK (fieldAddrB none 0 v33 h fun v _ => some v) h fun v34 h =>
 RdK (load1 none v34 h fun v _ => some v) h fun v35 h =>
 RdK (binB none Tryz.prog .geq 3 false false v31 v35 h fun v _ => some v) h fun v36 h =>
 CondW v36 (
 κ (Value.tuple (Array.mk [(Value.int .i64 (0)), (Value.bool false), (Value.int .i64 (8))])) h) (
 loadA False 2 (ptrTo b1) h fun v37 h =>
 fillB False [(0, 2)] [v37] [(Value.int .i64 (0)), (Value.int .i64 (0)), (Value.slice none 0 0), (Value.int .i64 (0))] fun cs38 =>
 cellsK False (Value.cells (Value.agg (Array.mk cs38))).toList 56 false fun o39 => newBlock False o39 h fun b40 h =>
 N24 [v23, v26, v27, v28, v29, v30, v31, v32, v33, v34, v35, v36, (Value.int .i64 (0)), (Value.bool false), (Value.int .i64 (0)), v37, (Value.agg (Array.mk cs38)), (ptrTo b40), (ptrTo b40)] h)

noncomputable def rs_27_1 (l25 : List Value) (v45 : Value) (a2 : Value) (a3 : Value) (a0 : Value) (h : Heap) (κ : Value → Heap → Prop) : Prop :=
 nilB False (slot l25 18) h fun v48 h =>
 loadA False 4 v48 h fun v49 h =>
 CallW Tryz.prog 65 [v49, v45, a2, a3] h fun v50 h =>
 extractB False 0 v50 h fun v51 h =>
 extractB False 1 v50 h fun v52 h =>
 extractB False 2 v50 h fun v53 h =>
 cellsK False [(Value.int .i64 (0)), (Value.int .i64 (0)), (Value.slice none 0 0), (Value.int .i64 (0))] 56 false fun o54 => newBlock False o54 h fun b55 h =>
 storeV False 4 (ptrTo b55) v51 h fun v56 h =>
 loadA False 4 (ptrTo b55) h fun v57 h =>
 CallW Tryz.prog 66 [a0, v57] h fun v58 h =>
 κ (Value.tuple (Array.mk [v45, v52, (Value.int .i64 (0))])) h

noncomputable def rs_27_2 (a0 : Value) (l25 : List Value) (a2 : Value) (a3 : Value) (h : Heap) (κ : Value → Heap → Prop) : Prop :=
 nilB False a0 h fun v41 h =>
 fieldAddrB False 1 v41 h fun v42 h =>
 load1 False v42 h fun v43 h =>
 CallW Tryz.prog 64 [v43] h fun v44 h =>
 extractB False 0 v44 h fun v45 h =>
 extractB False 1 v44 h fun v46 h =>
 binB False Tryz.prog .neq 30 true false v46 (Value.int .i64 (0)) h fun v47 h =>
 CondW v47 (
 κ (Value.tuple (Array.mk [(Value.int .i64 (0)), (Value.bool false), (Value.int .i64 (8))])) h) (
 rs_27_1 l25 v45 a2 a3 a0 h κ)

noncomputable def rs_27_3 (a0 : Value) (b1 : Nat) (a2 : Value) (a3 : Value) (h : Heap) (κ : Value → Heap → Prop) : Prop :=
 RdK (some a0) h fun v15 h =>
 RdK (nilB none v15 h fun v _ => some v) h fun v16 h =>
 RdK (fieldAddrB none 2 v16 h fun v _ => some v) h fun v17 h =>
 RdK (load1 none v17 h fun v _ => some v) h fun v18 h =>
 RdK (loadA none 2 (ptrTo b1) h fun v _ => some v) h fun v19 h =>
 RdK (lookupB none Tryz.prog 38 (Value.pointer none) true v18 v19 h fun v _ => some v) h fun v20 h =>
 RdK (some v20) h fun v21 h =>
 RdK (extractB none 0 v21 h fun v _ => some v) h fun v22 h =>
 RdK (extractB none 1 v21 h fun v _ => some v) h fun v23 h =>
 SameK ((reV (extractB none 1 v21 h fun v _ => some v) v23) && true) (JoinR (fun N24 =>
 unB False .not v23 h fun v26 h =>
 CondW v26 (
 rs_27_0 a0 b1 N24 v23 v26 h κ) (
 N24 [v23, v26, undef, undef, undef, undef, undef, undef, undef, undef, undef, undef, (Value.int .i64 (0)), (Value.bool false), (Value.int .i64 (0)), undef, undef, undef, v22] h)) fun l25 h =>
 rs_27_2 a0 l25 a2 a3 h κ)

noncomputable def rs_27_4 (b1 : Nat) (a0 : Value) (a2 : Value) (a3 : Value) (h : Heap) (κ : Value → Heap → Prop) : Prop :=
 loadA False 2 (ptrTo b1) h fun v11 h =>
 CallW Tryz.prog 21 [a0, v11, a2] h fun v12 h =>
 extractB False 0 v12 h fun v13 h =>
 extractB False 1 v12 h fun v14 h =>
 CondW v14 (
 κ (Value.tuple (Array.mk [(Value.int .i64 (0)), (Value.bool false), (Value.int .i64 (4))])) h) (
 rs_27_3 a0 b1 a2 a3 h κ)

noncomputable def rs_27_5 (a3 : Value) (b1 : Nat) (a0 : Value) (a2 : Value) (h : Heap) (κ : Value → Heap → Prop) : Prop :=
 binB False Tryz.prog .eql 39 true false a3 (Value.int .i64 (0)) h fun v3 h =>
 GuardW (wantV v3 false) (fun K4 =>
 K4 a3 h) h fun v5 h =>
 GuardW (wantV v3 false) (fun K6 =>
 CallW Tryz.prog 63 [v5] h K6) h fun v7 h =>
 GuardW (wantV v3 false) (fun K8 =>
 unB False .not v7 h K8) h fun v9 h =>
 pickB False v3 (Value.bool true) v9 h fun v10 h =>
 CondW v10 (
 κ (Value.tuple (Array.mk [(Value.int .i64 (0)), (Value.bool false), (Value.int .i64 (2))])) h) (
 rs_27_4 b1 a0 a2 a3 h κ)

/-- (*latchstring/bucket.Bucket).Ask -/
theorem rs_27 (a0 a1 a2 a3 : Value) (h : Heap) (κ : Value → Heap → Prop) : BodyW Tryz.prog 27 [a0, a1, a2, a3] h κ = (
 cellsK False (Value.cells a1).toList 38 false fun o0 => newBlock False o0 h fun b1 h =>
 binB False Tryz.prog .eql 25 true false a0 (Value.pointer none) h fun v2 h =>
 CondW v2 (
 κ (Value.tuple (Array.mk [(Value.int .i64 (0)), (Value.bool false), (Value.int .i64 (1))])) h) (
 rs_27_5 a3 b1 a0 a2 h κ)) := by kernel_rfl

/-- latchstring/latchstringref01.Known -/
theorem rs_28 (a0 : Value) (h : Heap) (κ : Value → Heap → Prop) : BodyW Tryz.prog 28 [a0] h κ = (
 binB False Tryz.prog .geq 39 true false a0 (Value.int .i64 (0)) h fun v0 h =>
 GuardW (wantV v0 true) (fun K1 =>
 K1 a0 h) h fun v2 h =>
 GuardW (wantV v0 true) (fun K3 =>
 binB False Tryz.prog .leq 39 true false v2 (Value.int .i64 (6)) h K3) h fun v4 h =>
 pickB False v0 v4 (Value.bool false) h fun v5 h =>
 κ v5 h) := by kernel_rfl

noncomputable def rs_30_0 (v0 : Value) (a1 : Value) (a0 : Value) (h : Heap) (κ : Value → Heap → Prop) : Prop :=
 nilB False v0 h fun v3 h =>
 loadA False 4 v3 h fun v4 h =>
 CallW Tryz.prog 68 [v4, a1] h fun v5 h =>
 extractB False 0 v5 h fun v6 h =>
 extractB False 1 v5 h fun v7 h =>
 cellsK False [(Value.int .i64 (0)), (Value.int .i64 (0)), (Value.slice none 0 0), (Value.int .i64 (0))] 56 false fun o8 => newBlock False o8 h fun b9 h =>
 storeV False 4 (ptrTo b9) v6 h fun v10 h =>
 nilB False a0 h fun v11 h =>
 fieldAddrB False 1 v11 h fun v12 h =>
 load1 False v12 h fun v13 h =>
 CallW Tryz.prog 69 [v13, a1] h fun v14 h =>
 loadA False 4 (ptrTo b9) h fun v15 h =>
 CallW Tryz.prog 66 [a0, v15] h fun v16 h =>
 κ (Value.tuple (Array.mk [v16, (Value.int .i64 (0))])) h

/-- (*latchstring/bucket.Bucket).Leave -/
theorem rs_30 (a0 a1 : Value) (h : Heap) (κ : Value → Heap → Prop) : BodyW Tryz.prog 30 [a0, a1] h κ = (
 CallW Tryz.prog 48 [a0, a1] h fun v0 h =>
 binB False Tryz.prog .eql 85 true false v0 (Value.pointer none) h fun v1 h =>
 CondW v1 (
 CallW Tryz.prog 67 [a0] h fun v2 h =>
 κ (Value.tuple (Array.mk [(Value.slice none 0 0), v2])) h) (
 rs_30_0 v0 a1 a0 h κ)) := by kernel_rfl

noncomputable def rs_32_0 (l13 : List Value) (a0 : Value) (b11 : Nat) (N12 : List Value → Heap → Prop) (h : Heap) (κ : Value → Heap → Prop) : Prop :=
 binB False Tryz.prog .lss 3 false false (slot l13 11) a0 h fun v14 h =>
 CondW v14 (
 nilB False (ptrTo b11) h fun v15 h =>
 fieldAddrB False 0 v15 h fun v16 h =>
 CallW Tryz.prog 70 [(Value.iface 119 v16), (Value.iface 3 (slot l13 11))] h fun v17 h =>
 binB False Tryz.prog .add 3 true false (slot l13 11) (Value.int .i64 (1)) h fun v18 h =>
 N12 [v14, (slot l13 11), (slot l13 11), (ptrTo b11), v15, v16, (Value.iface 119 v16), (slot l13 11), (Value.iface 3 (slot l13 11)), v17, v18, v18] h) (
 κ (Value.tuple (Array.mk [(ptrTo b11), (Value.int .i64 (0))])) h)

/-- latchstring/pool.New -/
theorem rs_32 (a0 : Value) (h : Heap) (κ : Value → Heap → Prop) : BodyW Tryz.prog 32 [a0] h κ = (
 binB False Tryz.prog .lss 3 true false a0 (Value.int .i64 (0)) h fun v0 h =>
 GuardW (wantV v0 false) (fun K1 =>
 K1 a0 h) h fun v2 h =>
 GuardW (wantV v0 false) (fun K3 =>
 binB False Tryz.prog .gtr 3 true false v2 (Value.int .i64 (128)) h K3) h fun v4 h =>
 pickB False v0 (Value.bool true) v4 h fun v5 h =>
 CondW v5 (
 κ (Value.tuple (Array.mk [(Value.pointer none), (Value.int .i64 (2))])) h) (
 mkSl False a0 a0 [(Value.bool false)] 4 h fun v8 h =>
 fillB False [(1, 1)] [v8] [(Value.slice none 0 0), (Value.slice none 0 0)] fun cs9 =>
 cellsK False (Value.cells (Value.agg (Array.mk cs9))).toList 94 false fun o10 => newBlock False o10 h fun b11 h =>
 LoopR [undef, undef, undef, undef, undef, undef, undef, undef, undef, undef, undef, (Value.int .i64 (0))] h fun l13 h N12 =>
 rs_32_0 l13 a0 b11 N12 h κ)) := by kernel_rfl

/-- latchstring/bucket.New -/
theorem rs_33 (a0 a1 : Value) (h : Heap) (κ : Value → Heap → Prop) : BodyW Tryz.prog 33 [a0, a1] h κ = (
 binB False Tryz.prog .lss 3 true false a0 (Value.int .i64 (1)) h fun v0 h =>
 GuardW (wantV v0 false) (fun K1 =>
 K1 a0 h) h fun v2 h =>
 GuardW (wantV v0 false) (fun K3 =>
 binB False Tryz.prog .gtr 3 true false v2 (Value.int .i64 (64)) h K3) h fun v4 h =>
 pickB False v0 (Value.bool true) v4 h fun v5 h =>
 GuardW (wantV v5 false) (fun K6 =>
 K6 a1 h) h fun v7 h =>
 GuardW (wantV v5 false) (fun K8 =>
 binB False Tryz.prog .eql 26 true false v7 (Value.pointer none) h K8) h fun v9 h =>
 pickB False v5 (Value.bool true) v9 h fun v10 h =>
 CondW v10 (
 κ (Value.tuple (Array.mk [(Value.pointer none), (Value.int .i64 (2))])) h) (
 newBlock False (.map [] 0) h fun b12 h =>
 fillB False [(0, 1), (1, 1), (2, 1)] [a0, a1, (mapTo b12)] [(Value.int .i64 (0)), (Value.pointer none), (Value.map none)] fun cs13 =>
 cellsK False (Value.cells (Value.agg (Array.mk cs13))).toList 88 false fun o14 => newBlock False o14 h fun b15 h =>
 κ (Value.tuple (Array.mk [(ptrTo b15), (Value.int .i64 (0))])) h)) := by kernel_rfl

noncomputable def rs_34_0 (l3 : List Value) (a1 : Value) (a2 : Value) (a0 : Value) (h : Heap) (κ : Value → Heap → Prop) : Prop :=
 nilB False (slot l3 4) h fun v8 h =>
 loadA False 4 v8 h fun v9 h =>
 CallW Tryz.prog 71 [v9, a1, a2] h fun v10 h =>
 extractB False 0 v10 h fun v11 h =>
 extractB False 1 v10 h fun v12 h =>
 extractB False 2 v10 h fun v13 h =>
 cellsK False [(Value.int .i64 (0)), (Value.int .i64 (0)), (Value.slice none 0 0), (Value.int .i64 (0))] 56 false fun o14 => newBlock False o14 h fun b15 h =>
 storeV False 4 (ptrTo b15) v11 h fun v16 h =>
 binB False Tryz.prog .neq 30 true false v13 (Value.int .i64 (0)) h fun v17 h =>
 CondW v17 (
 κ (Value.tuple (Array.mk [(Value.bool false), v13])) h) (
 loadA False 4 (ptrTo b15) h fun v18 h =>
 CallW Tryz.prog 66 [a0, v18] h fun v19 h =>
 κ (Value.tuple (Array.mk [v12, (Value.int .i64 (0))])) h)

noncomputable def rs_34_1 (a0 : Value) (a1 : Value) (a2 : Value) (h : Heap) (κ : Value → Heap → Prop) : Prop :=
 CallW Tryz.prog 48 [a0, a1] h fun v1 h =>
 JoinR (fun N2 =>
 binB False Tryz.prog .eql 85 true false v1 (Value.pointer none) h fun v4 h =>
 CondW v4 (
 fillB False [] [] [(Value.int .i64 (0)), (Value.int .i64 (0)), (Value.slice none 0 0), (Value.int .i64 (0))] fun cs5 =>
 cellsK False (Value.cells (Value.agg (Array.mk cs5))).toList 56 false fun o6 => newBlock False o6 h fun b7 h =>
 N2 [v1, v4, (Value.agg (Array.mk cs5)), (ptrTo b7), (ptrTo b7)] h) (
 N2 [v1, v4, undef, undef, v1] h)) fun l3 h =>
 rs_34_0 l3 a1 a2 a0 h κ

/-- (*latchstring/bucket.Bucket).Upgrade -/
theorem rs_34 (a0 a1 a2 : Value) (h : Heap) (κ : Value → Heap → Prop) : BodyW Tryz.prog 34 [a0, a1, a2] h κ = (
 binB False Tryz.prog .eql 25 true false a0 (Value.pointer none) h fun v0 h =>
 CondW v0 (
 κ (Value.tuple (Array.mk [(Value.bool false), (Value.int .i64 (1))])) h) (
 rs_34_1 a0 a1 a2 h κ)) := by kernel_rfl

noncomputable def rs_35_0 (a0 : Value) (v0 : Value) (b20 : Nat) (v17 : Value) (h : Heap) (κ : Value → Heap → Prop) : Prop :=
 RdK (some a0) h fun v23 h =>
 RdK (nilB none v23 h fun v _ => some v) h fun v24 h =>
 RdK (fieldAddrB none 2 v24 h fun v _ => some v) h fun v25 h =>
 RdK (load1 none v25 h fun v _ => some v) h fun v26 h =>
 RdK (some v0) h fun v27 h =>
 RdK (loadA none 4 (ptrTo b20) h fun v _ => some v) h fun v28 h =>
 RdK (indexAddrS none 4 v26 v27 h fun v _ => some v) h fun v29 h =>
 storeV False 4 v29 v28 h fun v30 h =>
 κ (Value.tuple (Array.mk [v17, (Value.int .i64 (0))])) h

noncomputable def rs_35_1 (a1 : Value) (a2 : Value) (h : Heap) (κ : Value → Heap → Prop) : Prop :=
 fillB False [] [] [(Value.int .i64 (0)), (Value.int .i64 (0)), (Value.slice none 0 0), (Value.int .i64 (0))] fun cs2 =>
 CallW Tryz.prog 72 [(Value.agg (Array.mk cs2)), a1, a2] h fun v3 h =>
 extractB False 0 v3 h fun v4 h =>
 extractB False 1 v3 h fun v5 h =>
 extractB False 2 v3 h fun v6 h =>
 cellsK False [(Value.int .i64 (0)), (Value.int .i64 (0)), (Value.slice none 0 0), (Value.int .i64 (0))] 56 false fun o7 => newBlock False o7 h fun b8 h =>
 storeV False 4 (ptrTo b8) v4 h fun v9 h =>
 κ (Value.tuple (Array.mk [(Value.bool false), v6])) h

noncomputable def rs_35_2 (a0 : Value) (v0 : Value) (a1 : Value) (a2 : Value) (h : Heap) (κ : Value → Heap → Prop) : Prop :=
 nilB False a0 h fun v10 h =>
 fieldAddrB False 2 v10 h fun v11 h =>
 load1 False v11 h fun v12 h =>
 indexAddrS False 4 v12 v0 h fun v13 h =>
 loadA False 4 v13 h fun v14 h =>
 CallW Tryz.prog 72 [v14, a1, a2] h fun v15 h =>
 extractB False 0 v15 h fun v16 h =>
 extractB False 1 v15 h fun v17 h =>
 extractB False 2 v15 h fun v18 h =>
 cellsK False [(Value.int .i64 (0)), (Value.int .i64 (0)), (Value.slice none 0 0), (Value.int .i64 (0))] 56 false fun o19 => newBlock False o19 h fun b20 h =>
 storeV False 4 (ptrTo b20) v16 h fun v21 h =>
 binB False Tryz.prog .neq 30 true false v18 (Value.int .i64 (0)) h fun v22 h =>
 CondW v22 (
 κ (Value.tuple (Array.mk [(Value.bool false), v18])) h) (
 rs_35_0 a0 v0 b20 v17 h κ)

/-- (*latchstring/latchstringref11.Bucket).Upgrade -/
theorem rs_35 (a0 a1 a2 : Value) (h : Heap) (κ : Value → Heap → Prop) : BodyW Tryz.prog 35 [a0, a1, a2] h κ = (
 CallW Tryz.prog 50 [a0, a1] h fun v0 h =>
 binB False Tryz.prog .lss 3 true false v0 (Value.int .i64 (0)) h fun v1 h =>
 CondW v1 (
 rs_35_1 a1 a2 h κ) (
 rs_35_2 a0 v0 a1 a2 h κ)) := by kernel_rfl

noncomputable def rs_36_0 (a0 : Value) (v0 : Value) (a1 : Value) (h : Heap) (κ : Value → Heap → Prop) : Prop :=
 nilB False a0 h fun v2 h =>
 fieldAddrB False 2 v2 h fun v3 h =>
 load1 False v3 h fun v4 h =>
 indexAddrS False 4 v4 v0 h fun v5 h =>
 loadA False 4 v5 h fun v6 h =>
 CallW Tryz.prog 73 [v6, a1] h fun v7 h =>
 extractB False 0 v7 h fun v8 h =>
 extractB False 1 v7 h fun v9 h =>
 cellsK False [(Value.int .i64 (0)), (Value.int .i64 (0)), (Value.slice none 0 0), (Value.int .i64 (0))] 56 false fun o10 => newBlock False o10 h fun b11 h =>
 storeV False 4 (ptrTo b11) v8 h fun v12 h =>
 nilB False a0 h fun v13 h =>
 fieldAddrB False 1 v13 h fun v14 h =>
 load1 False v14 h fun v15 h =>
 CallW Tryz.prog 74 [v15, a1] h fun v16 h =>
 loadA False 4 (ptrTo b11) h fun v17 h =>
 CallW Tryz.prog 75 [a0, v0, v17] h fun v18 h =>
 κ (Value.tuple (Array.mk [v18, (Value.int .i64 (0))])) h

/-- (*latchstring/latchstringref11.Bucket).Leave -/
theorem rs_36 (a0 a1 : Value) (h : Heap) (κ : Value → Heap → Prop) : BodyW Tryz.prog 36 [a0, a1] h κ = (
 CallW Tryz.prog 50 [a0, a1] h fun v0 h =>
 binB False Tryz.prog .lss 3 true false v0 (Value.int .i64 (0)) h fun v1 h =>
 CondW v1 (
 κ (Value.tuple (Array.mk [(Value.slice none 0 0), (Value.int .i64 (5))])) h) (
 rs_36_0 a0 v0 a1 h κ)) := by kernel_rfl

noncomputable def rs_37_0 (a0 : Value) (l4 : List Value) (a1 : Value) (N3 : List Value → Heap → Prop) (v5 : Value) (v6 : Value) (h : Heap) (κ : Value → Heap → Prop) : Prop :=
 RdK (some a0) h fun v7 h =>
 RdK (some (slot l4 16)) h fun v8 h =>
 RdK (indexAddrS none 1 v7 v8 h fun v _ => some v) h fun v9 h =>
 RdK (load1 none v9 h fun v _ => some v) h fun v10 h =>
 RdK (some a1) h fun v11 h =>
 RdK (some (slot l4 16)) h fun v12 h =>
 RdK (indexAddrS none 1 v11 v12 h fun v _ => some v) h fun v13 h =>
 RdK (load1 none v13 h fun v _ => some v) h fun v14 h =>
 RdK (binB none Tryz.prog .neq 3 false false v10 v14 h fun v _ => some v) h fun v15 h =>
 CondW v15 (
 κ (Value.bool false) h) (
 binB False Tryz.prog .add 3 true false (slot l4 16) (Value.int .i64 (1)) h fun v16 h =>
 N3 [(slot l4 16), a0, v5, v6, v7, v8, v9, v10, v11, v12, v13, v14, v15, (slot l4 13), (slot l4 16), v16, v16] h)

/-- latchstring/latchstringkit.Same[int] -/
theorem rs_37 (a0 a1 : Value) (h : Heap) (κ : Value → Heap → Prop) : BodyW Tryz.prog 37 [a0, a1] h κ = (
 lenSli False a0 h fun v0 h =>
 lenSli False a1 h fun v1 h =>
 binB False Tryz.prog .neq 3 false false v0 v1 h fun v2 h =>
 CondW v2 (
 κ (Value.bool false) h) (
 LoopR [undef, undef, undef, undef, undef, undef, undef, undef, undef, undef, undef, undef, undef, (Value.bool false), undef, undef, (Value.int .i64 (0))] h fun l4 h N3 =>
 lenSli False a0 h fun v5 h =>
 binB False Tryz.prog .lss 3 false false (slot l4 16) v5 h fun v6 h =>
 CondW v6 (
 rs_37_0 a0 l4 a1 N3 v5 v6 h κ) (
 κ (Value.bool true) h))) := by kernel_rfl

noncomputable def rs_38_0 (b9 : Nat) (a1 : Value) (a0 : Value) (N12 : List Value → Heap → Prop) (h : Heap) : Prop :=
 loadA False 4 (ptrTo b9) h fun v14 h =>
 CallW Tryz.prog 49 [v14, a1] h fun v15 h =>
 extractB False 0 v15 h fun v16 h =>
 extractB False 1 v15 h fun v17 h =>
 cellsK False [(Value.int .i64 (0)), (Value.int .i64 (0)), (Value.int .i64 (0)), (Value.int .i64 (0)), (Value.int .i64 (0))] 47 false fun o18 => newBlock False o18 h fun b19 h =>
 storeV False 5 (ptrTo b19) v16 h fun v20 h =>
 unB False .not v17 h fun v21 h =>
 CondW v21 (
 nilB False a0 h fun v22 h =>
 fieldAddrB False 1 v22 h fun v23 h =>
 load1 False v23 h fun v24 h =>
 CallW Tryz.prog 69 [v24, a1] h fun v25 h =>
 N12 [v14, a1, v15, v15, v16, v17, (ptrTo b19), v17, v17, v21, a0, v22, v23, v24, a1, v25] h) (
 N12 [v14, a1, v15, v15, v16, v17, (ptrTo b19), v17, v17, v21, undef, undef, undef, undef, undef, undef] h)

noncomputable def rs_38_1 (v0 : Value) (a1 : Value) (a0 : Value) (h : Heap) (κ : Value → Heap → Prop) : Prop :=
 nilB False v0 h fun v3 h =>
 loadA False 4 v3 h fun v4 h =>
 CallW Tryz.prog 76 [v4, a1] h fun v5 h =>
 extractB False 0 v5 h fun v6 h =>
 extractB False 1 v5 h fun v7 h =>
 cellsK False [(Value.int .i64 (0)), (Value.int .i64 (0)), (Value.slice none 0 0), (Value.int .i64 (0))] 56 false fun o8 => newBlock False o8 h fun b9 h =>
 storeV False 4 (ptrTo b9) v6 h fun v10 h =>
 binB False Tryz.prog .neq 30 true false v7 (Value.int .i64 (0)) h fun v11 h =>
 CondW v11 (
 κ (Value.tuple (Array.mk [(Value.slice none 0 0), v7])) h) (
 JoinR (fun N12 =>
 rs_38_0 b9 a1 a0 N12 h) fun l13 h =>
 loadA False 4 (ptrTo b9) h fun v26 h =>
 CallW Tryz.prog 66 [a0, v26] h fun v27 h =>
 κ (Value.tuple (Array.mk [v27, (Value.int .i64 (0))])) h)

/-- (*latchstring/bucket.Bucket).Abandon -/
theorem rs_38 (a0 a1 : Value) (h : Heap) (κ : Value → Heap → Prop) : BodyW Tryz.prog 38 [a0, a1] h κ = (
 CallW Tryz.prog 48 [a0, a1] h fun v0 h =>
 binB False Tryz.prog .eql 85 true false v0 (Value.pointer none) h fun v1 h =>
 CondW v1 (
 CallW Tryz.prog 67 [a0] h fun v2 h =>
 κ (Value.tuple (Array.mk [(Value.slice none 0 0), v2])) h) (
 rs_38_1 v0 a1 a0 h κ)) := by kernel_rfl

noncomputable def rs_39_0 (v17 : Value) (a0 : Value) (a1 : Value) (N21 : List Value → Heap → Prop) (h : Heap) : Prop :=
 unB False .not v17 h fun v23 h =>
 CondW v23 (
 nilB False a0 h fun v24 h =>
 fieldAddrB False 1 v24 h fun v25 h =>
 load1 False v25 h fun v26 h =>
 CallW Tryz.prog 74 [v26, a1] h fun v27 h =>
 N21 [v17, v23, a0, v24, v25, v26, a1, v27] h) (
 N21 [v17, v23, undef, undef, undef, undef, undef, undef] h)

noncomputable def rs_39_1 (b11 : Nat) (a1 : Value) (a0 : Value) (v0 : Value) (h : Heap) (κ : Value → Heap → Prop) : Prop :=
 loadA False 4 (ptrTo b11) h fun v14 h =>
 CallW Tryz.prog 51 [v14, a1] h fun v15 h =>
 extractB False 0 v15 h fun v16 h =>
 extractB False 1 v15 h fun v17 h =>
 cellsK False [(Value.int .i64 (0)), (Value.int .i64 (0)), (Value.int .i64 (0)), (Value.int .i64 (0)), (Value.int .i64 (0))] 47 false fun o18 => newBlock False o18 h fun b19 h =>
 storeV False 5 (ptrTo b19) v16 h fun v20 h =>
 JoinR (fun N21 =>
 rs_39_0 v17 a0 a1 N21 h) fun l22 h =>
 loadA False 4 (ptrTo b11) h fun v28 h =>
 CallW Tryz.prog 75 [a0, v0, v28] h fun v29 h =>
 κ (Value.tuple (Array.mk [v29, (Value.int .i64 (0))])) h

noncomputable def rs_39_2 (a0 : Value) (v0 : Value) (a1 : Value) (h : Heap) (κ : Value → Heap → Prop) : Prop :=
 nilB False a0 h fun v2 h =>
 fieldAddrB False 2 v2 h fun v3 h =>
 load1 False v3 h fun v4 h =>
 indexAddrS False 4 v4 v0 h fun v5 h =>
 loadA False 4 v5 h fun v6 h =>
 CallW Tryz.prog 77 [v6, a1] h fun v7 h =>
 extractB False 0 v7 h fun v8 h =>
 extractB False 1 v7 h fun v9 h =>
 cellsK False [(Value.int .i64 (0)), (Value.int .i64 (0)), (Value.slice none 0 0), (Value.int .i64 (0))] 56 false fun o10 => newBlock False o10 h fun b11 h =>
 storeV False 4 (ptrTo b11) v8 h fun v12 h =>
 binB False Tryz.prog .neq 30 true false v9 (Value.int .i64 (0)) h fun v13 h =>
 CondW v13 (
 κ (Value.tuple (Array.mk [(Value.slice none 0 0), v9])) h) (
 rs_39_1 b11 a1 a0 v0 h κ)

/-- (*latchstring/latchstringref11.Bucket).Abandon -/
theorem rs_39 (a0 a1 : Value) (h : Heap) (κ : Value → Heap → Prop) : BodyW Tryz.prog 39 [a0, a1] h κ = (
 CallW Tryz.prog 50 [a0, a1] h fun v0 h =>
 binB False Tryz.prog .lss 3 true false v0 (Value.int .i64 (0)) h fun v1 h =>
 CondW v1 (
 κ (Value.tuple (Array.mk [(Value.slice none 0 0), (Value.int .i64 (5))])) h) (
 rs_39_2 a0 v0 a1 h κ)) := by kernel_rfl

noncomputable def rs_40_0 (v0 : Value) (a1 : Value) (a2 : Value) (a0 : Value) (h : Heap) (κ : Value → Heap → Prop) : Prop :=
 nilB False v0 h fun v3 h =>
 loadA False 4 v3 h fun v4 h =>
 CallW Tryz.prog 78 [v4, a1, a2] h fun v5 h =>
 extractB False 0 v5 h fun v6 h =>
 extractB False 1 v5 h fun v7 h =>
 cellsK False [(Value.int .i64 (0)), (Value.int .i64 (0)), (Value.slice none 0 0), (Value.int .i64 (0))] 56 false fun o8 => newBlock False o8 h fun b9 h =>
 storeV False 4 (ptrTo b9) v6 h fun v10 h =>
 JoinR (fun N11 =>
 binB False Tryz.prog .eql 30 true false v7 (Value.int .i64 (0)) h fun v13 h =>
 CondW v13 (
 loadA False 4 (ptrTo b9) h fun v14 h =>
 CallW Tryz.prog 66 [a0, v14] h fun v15 h =>
 N11 [v7, v13, a0, v14, v15] h) (
 N11 [v7, v13, undef, undef, undef] h)) fun l12 h =>
 κ v7 h

/-- (*latchstring/bucket.Bucket).Hand -/
theorem rs_40 (a0 a1 a2 : Value) (h : Heap) (κ : Value → Heap → Prop) : BodyW Tryz.prog 40 [a0, a1, a2] h κ = (
 CallW Tryz.prog 48 [a0, a1] h fun v0 h =>
 binB False Tryz.prog .eql 85 true false v0 (Value.pointer none) h fun v1 h =>
 CondW v1 (
 CallW Tryz.prog 67 [a0] h fun v2 h =>
 κ v2 h) (
 rs_40_0 v0 a1 a2 a0 h κ)) := by kernel_rfl

noncomputable def rs_41_0 (a0 : Value) (v0 : Value) (b11 : Nat) (N13 : List Value → Heap → Prop) (v9 : Value) (v15 : Value) (h : Heap) : Prop :=
 RdK (some a0) h fun v16 h =>
 RdK (nilB none v16 h fun v _ => some v) h fun v17 h =>
 RdK (fieldAddrB none 2 v17 h fun v _ => some v) h fun v18 h =>
 RdK (load1 none v18 h fun v _ => some v) h fun v19 h =>
 RdK (some v0) h fun v20 h =>
 RdK (loadA none 4 (ptrTo b11) h fun v _ => some v) h fun v21 h =>
 RdK (indexAddrS none 4 v19 v20 h fun v _ => some v) h fun v22 h =>
 storeV False 4 v22 v21 h fun v23 h =>
 N13 [v9, v15, v16, v17, v18, v19, v20, v21, v22] h

noncomputable def rs_41_1 (a0 : Value) (v0 : Value) (a1 : Value) (a2 : Value) (h : Heap) (κ : Value → Heap → Prop) : Prop :=
 nilB False a0 h fun v2 h =>
 fieldAddrB False 2 v2 h fun v3 h =>
 load1 False v3 h fun v4 h =>
 indexAddrS False 4 v4 v0 h fun v5 h =>
 loadA False 4 v5 h fun v6 h =>
 CallW Tryz.prog 79 [v6, a1, a2] h fun v7 h =>
 extractB False 0 v7 h fun v8 h =>
 extractB False 1 v7 h fun v9 h =>
 cellsK False [(Value.int .i64 (0)), (Value.int .i64 (0)), (Value.slice none 0 0), (Value.int .i64 (0))] 56 false fun o10 => newBlock False o10 h fun b11 h =>
 storeV False 4 (ptrTo b11) v8 h fun v12 h =>
 JoinR (fun N13 =>
 binB False Tryz.prog .eql 30 true false v9 (Value.int .i64 (0)) h fun v15 h =>
 CondW v15 (
 rs_41_0 a0 v0 b11 N13 v9 v15 h) (
 N13 [v9, v15, undef, undef, undef, undef, undef, undef, undef] h)) fun l14 h =>
 κ v9 h

/-- (*latchstring/latchstringref11.Bucket).Hand -/
theorem rs_41 (a0 a1 a2 : Value) (h : Heap) (κ : Value → Heap → Prop) : BodyW Tryz.prog 41 [a0, a1, a2] h κ = (
 CallW Tryz.prog 50 [a0, a1] h fun v0 h =>
 binB False Tryz.prog .lss 3 true false v0 (Value.int .i64 (0)) h fun v1 h =>
 CondW v1 (
 κ (Value.int .i64 (5)) h) (
 rs_41_1 a0 v0 a1 a2 h κ)) := by kernel_rfl

noncomputable def rs_42_0 (a0 : Value) (v16 : Value) (b70 : Nat) (N72 : List Value → Heap → Prop) (v17 : Value) (h : Heap) : Prop :=
 nilB False a0 h fun v74 h =>
 fieldAddrB False 2 v74 h fun v75 h =>
 load1 False v75 h fun v76 h =>
 indexAddrS False 4 v76 v16 h fun v77 h =>
 loadA False 4 v77 h fun v78 h =>
 storeV False 4 (ptrTo b70) v78 h fun v79 h =>
 N72 [v17, a0, v74, v75, v76, v16, v77, v78] h

noncomputable def rs_42_1 (a0 : Value) (l106 : List Value) (v104 : Value) (v84 : Value) (v89 : Value) (h : Heap) (κ : Value → Heap → Prop) : Prop :=
 nilB False a0 h fun v108 h =>
 fieldAddrB False 2 v108 h fun v109 h =>
 load1 False v109 h fun v110 h =>
 sliceB False 56 4 v110 (some (slot l106 3)) none none h fun v111 h =>
 appendB False 56 4 [(Value.int .i64 (0)), (Value.int .i64 (0)), (Value.slice none 0 0), (Value.int .i64 (0))] false v104 v111 h fun v112 h =>
 nilB False a0 h fun v113 h =>
 fieldAddrB False 2 v113 h fun v114 h =>
 storeV False 1 v114 v112 h fun v115 h =>
 κ (Value.tuple (Array.mk [v84, v89, (Value.int .i64 (0))])) h

noncomputable def rs_42_2 (a0 : Value) (b70 : Nat) (a2 : Value) (a3 : Value) (v16 : Value) (v17 : Value) (h : Heap) (κ : Value → Heap → Prop) : Prop :=
 nilB False a0 h fun v80 h =>
 fieldAddrB False 1 v80 h fun v81 h =>
 load1 False v81 h fun v82 h =>
 CallW Tryz.prog 81 [v82] h fun v83 h =>
 extractB False 0 v83 h fun v84 h =>
 extractB False 1 v83 h fun v85 h =>
 loadA False 4 (ptrTo b70) h fun v86 h =>
 CallW Tryz.prog 82 [v86, v84, a2, a3] h fun v87 h =>
 extractB False 0 v87 h fun v88 h =>
 extractB False 1 v87 h fun v89 h =>
 extractB False 2 v87 h fun v90 h =>
 storeV False 4 (ptrTo b70) v88 h fun v91 h =>
 fillB False [] [] (repeatL [(Value.int .i64 (0)), (Value.int .i64 (0)), (Value.slice none 0 0), (Value.int .i64 (0))] 0) fun cs94 => cellsK False cs94 56 false fun o92 => newBlock False o92 h fun b93 h =>
 nilB False a0 h fun v95 h =>
 fieldAddrB False 2 v95 h fun v96 h =>
 load1 False v96 h fun v97 h =>
 sliceB False 56 4 v97 none (some v16) none h fun v98 h =>
 appendB False 56 4 [(Value.int .i64 (0)), (Value.int .i64 (0)), (Value.slice none 0 0), (Value.int .i64 (0))] false (sliceTo 0 0 b93) v98 h fun v99 h =>
 loadA False 4 (ptrTo b70) h fun v100 h =>
 fillB False [(0, 4)] [v100] (repeatL [(Value.int .i64 (0)), (Value.int .i64 (0)), (Value.slice none 0 0), (Value.int .i64 (0))] 1) fun cs103 => cellsK False cs103 56 false fun o101 => newBlock False o101 h fun b102 h =>
 appendB False 56 4 [(Value.int .i64 (0)), (Value.int .i64 (0)), (Value.slice none 0 0), (Value.int .i64 (0))] false v99 (sliceTo 1 1 b102) h fun v104 h =>
 JoinR (fun N105 =>
 CondW v17 (
 binB False Tryz.prog .add 3 true false v16 (Value.int .i64 (1)) h fun v107 h =>
 N105 [v17, v16, v107, v107] h) (
 N105 [v17, undef, undef, v16] h)) fun l106 h =>
 rs_42_1 a0 l106 v104 v84 v89 h κ

noncomputable def rs_42_3 (b1 : Nat) (v17 : Value) (a0 : Value) (v16 : Value) (a2 : Value) (a3 : Value) (h : Heap) (κ : Value → Heap → Prop) : Prop :=
 loadA False 2 (ptrTo b1) h fun v67 h =>
 fillB False [(0, 2)] [v67] [(Value.int .i64 (0)), (Value.int .i64 (0)), (Value.slice none 0 0), (Value.int .i64 (0))] fun cs68 =>
 cellsK False [(Value.int .i64 (0)), (Value.int .i64 (0)), (Value.slice none 0 0), (Value.int .i64 (0))] 56 false fun o69 => newBlock False o69 h fun b70 h =>
 storeV False 4 (ptrTo b70) (Value.agg (Array.mk cs68)) h fun v71 h =>
 JoinR (fun N72 =>
 CondW v17 (
 rs_42_0 a0 v16 b70 N72 v17 h) (
 N72 [v17, undef, undef, undef, undef, undef, undef, undef] h)) fun l73 h =>
 rs_42_2 a0 b70 a2 a3 v16 v17 h κ

noncomputable def rs_42_4 (b1 : Nat) (a0 : Value) (a2 : Value) (a3 : Value) (h : Heap) (κ : Value → Heap → Prop) : Prop :=
 loadA False 2 (ptrTo b1) h fun v14 h =>
 CallW Tryz.prog 54 [a0, v14] h fun v15 h =>
 extractB False 0 v15 h fun v16 h =>
 extractB False 1 v15 h fun v17 h =>
 RdK (some v17) h fun v18 h =>
 RdK (unB none .not v18 h fun v _ => some v) h fun v19 h =>
 RdK (some v19) h fun v20 h =>
 GuardW (wantV v20 true) (fun K21 =>
 RdK (some a0) h K21) h fun v22 h =>
 GuardW (wantV v20 true) (fun K23 =>
 RdK (nilB none v22 h fun v _ => some v) h K23) h fun v24 h =>
 GuardW (wantV v20 true) (fun K25 =>
 RdK (fieldAddrB none 2 v24 h fun v _ => some v) h K25) h fun v26 h =>
 GuardW (wantV v20 true) (fun K27 =>
 RdK (load1 none v26 h fun v _ => some v) h K27) h fun v28 h =>
 GuardW (wantV v20 true) (fun K29 =>
 RdK (lenSli none v28 h fun v _ => some v) h K29) h fun v30 h =>
 GuardW (wantV v20 true) (fun K31 =>
 RdK (some a0) h K31) h fun v32 h =>
 GuardW (wantV v20 true) (fun K33 =>
 RdK (nilB none v32 h fun v _ => some v) h K33) h fun v34 h =>
 GuardW (wantV v20 true) (fun K35 =>
 RdK (fieldAddrB none 0 v34 h fun v _ => some v) h K35) h fun v36 h =>
 GuardW (wantV v20 true) (fun K37 =>
 RdK (load1 none v36 h fun v _ => some v) h K37) h fun v38 h =>
 GuardW (wantV v20 true) (fun K39 =>
 RdK (binB none Tryz.prog .geq 3 false false v30 v38 h fun v _ => some v) h K39) h fun v40 h =>
 RdK (pickB none v20 v40 (Value.bool false) h fun v _ => some v) h fun v41 h =>
 RdK (some v41) h fun v42 h =>
 GuardW (wantV v42 false) (fun K43 =>
 RdK (some a0) h K43) h fun v44 h =>
 GuardW (wantV v42 false) (fun K45 =>
 RdK (nilB none v44 h fun v _ => some v) h K45) h fun v46 h =>
 GuardW (wantV v42 false) (fun K47 =>
 RdK (fieldAddrB none 1 v46 h fun v _ => some v) h K47) h fun v48 h =>
 GuardW (wantV v42 false) (fun K49 =>
 RdK (load1 none v48 h fun v _ => some v) h K49) h fun v50 h =>
 GuardW (wantV v42 false) (fun K51 =>
 RdK (some a0) h K51) h fun v52 h =>
 GuardW (wantV v42 false) (fun K53 =>
 RdK (nilB none v52 h fun v _ => some v) h K53) h fun v54 h =>
 GuardW (wantV v42 false) (fun K55 =>
 RdK (fieldAddrB none 1 v54 h fun v _ => some v) h K55) h fun v56 h =>
 GuardW (wantV v42 false) (fun K57 =>
 RdK (load1 none v56 h fun v _ => some v) h K57) h fun v58 h =>
 GuardW (wantV v42 false) (fun K59 =>
 CallW Tryz.prog 18 [v50] h fun v60 h =>
 SameK ((reG (wantV v42 false) (reV (some a0) v52)) && ((reG (wantV v42 false) (reV (nilB none v52 h fun v _ => some v) v54)) && ((reG (wantV v42 false) (reV (fieldAddrB none 1 v54 h fun v _ => some v) v56)) && ((reG (wantV v42 false) (reV (load1 none v56 h fun v _ => some v) v58)) && true)))) (K59 v60 h)) h fun v61 h =>
 GuardW (wantV v42 false) (fun K62 =>
 CallW Tryz.prog 80 [v58] h K62) h fun v63 h =>
 GuardW (wantV v42 false) (fun K64 =>
 RdK (binB none Tryz.prog .geq 3 false false v61 v63 h fun v _ => some v) h K64) h fun v65 h =>
 RdK (pickB none v42 (Value.bool true) v65 h fun v _ => some v) h fun v66 h =>
 CondW v66 (
 κ (Value.tuple (Array.mk [(Value.int .i64 (0)), (Value.bool false), (Value.int .i64 (8))])) h) (
 rs_42_3 b1 v17 a0 v16 a2 a3 h κ)

noncomputable def rs_42_5 (b1 : Nat) (a0 : Value) (a2 : Value) (a3 : Value) (h : Heap) (κ : Value → Heap → Prop) : Prop :=
 loadA False 2 (ptrTo b1) h fun v10 h =>
 CallW Tryz.prog 22 [a0, v10, a2] h fun v11 h =>
 extractB False 0 v11 h fun v12 h =>
 extractB False 1 v11 h fun v13 h =>
 CondW v13 (
 κ (Value.tuple (Array.mk [(Value.int .i64 (0)), (Value.bool false), (Value.int .i64 (4))])) h) (
 rs_42_4 b1 a0 a2 a3 h κ)

/-- (*latchstring/latchstringref11.Bucket).Ask -/
theorem rs_42 (a0 a1 a2 a3 : Value) (h : Heap) (κ : Value → Heap → Prop) : BodyW Tryz.prog 42 [a0, a1, a2, a3] h κ = (
 cellsK False (Value.cells a1).toList 38 false fun o0 => newBlock False o0 h fun b1 h =>
 binB False Tryz.prog .eql 39 true false a3 (Value.int .i64 (0)) h fun v2 h =>
 GuardW (wantV v2 false) (fun K3 =>
 K3 a3 h) h fun v4 h =>
 GuardW (wantV v2 false) (fun K5 =>
 CallW Tryz.prog 28 [v4] h K5) h fun v6 h =>
 GuardW (wantV v2 false) (fun K7 =>
 unB False .not v6 h K7) h fun v8 h =>
 pickB False v2 (Value.bool true) v8 h fun v9 h =>
 CondW v9 (
 κ (Value.tuple (Array.mk [(Value.int .i64 (0)), (Value.bool false), (Value.int .i64 (2))])) h) (
 rs_42_5 b1 a0 a2 a3 h κ)) := by kernel_rfl

noncomputable def rs_43_0 (a0 : Value) (l4 : List Value) (a1 : Value) (N3 : List Value → Heap → Prop) (v5 : Value) (v6 : Value) (h : Heap) (κ : Value → Heap → Prop) : Prop :=
 RdK (some a0) h fun v7 h =>
 RdK (some (slot l4 16)) h fun v8 h =>
 RdK (indexAddrS none 5 v7 v8 h fun v _ => some v) h fun v9 h =>
 RdK (loadA none 5 v9 h fun v _ => some v) h fun v10 h =>
 RdK (some a1) h fun v11 h =>
 RdK (some (slot l4 16)) h fun v12 h =>
 RdK (indexAddrS none 5 v11 v12 h fun v _ => some v) h fun v13 h =>
 RdK (loadA none 5 v13 h fun v _ => some v) h fun v14 h =>
 RdK (binB none Tryz.prog .neq 47 false false v10 v14 h fun v _ => some v) h fun v15 h =>
 CondW v15 (
 κ (Value.bool false) h) (
 binB False Tryz.prog .add 3 true false (slot l4 16) (Value.int .i64 (1)) h fun v16 h =>
 N3 [(slot l4 16), a0, v5, v6, v7, v8, v9, v10, v11, v12, v13, v14, v15, (slot l4 13), (slot l4 16), v16, v16] h)

/-- latchstring/latchstringkit.Same[latchstring/api.Request] -/
theorem rs_43 (a0 a1 : Value) (h : Heap) (κ : Value → Heap → Prop) : BodyW Tryz.prog 43 [a0, a1] h κ = (
 lenSli False a0 h fun v0 h =>
 lenSli False a1 h fun v1 h =>
 binB False Tryz.prog .neq 3 false false v0 v1 h fun v2 h =>
 CondW v2 (
 κ (Value.bool false) h) (
 LoopR [undef, undef, undef, undef, undef, undef, undef, undef, undef, undef, undef, undef, undef, (Value.bool false), undef, undef, (Value.int .i64 (0))] h fun l4 h N3 =>
 lenSli False a0 h fun v5 h =>
 binB False Tryz.prog .lss 3 false false (slot l4 16) v5 h fun v6 h =>
 CondW v6 (
 rs_43_0 a0 l4 a1 N3 v5 v6 h κ) (
 κ (Value.bool true) h))) := by kernel_rfl

/-- (*latchstring/bucket.Bucket).names -/
theorem rs_44 (a0 : Value) (h : Heap) (κ : Value → Heap → Prop) : BodyW Tryz.prog 44 [a0] h κ = (
 nilB False a0 h fun v0 h =>
 fieldAddrB False 2 v0 h fun v1 h =>
 load1 False v1 h fun v2 h =>
 CallW Tryz.prog 84 [v2] h fun v3 h =>
 CallW Tryz.prog 83 [v3, (Value.func (.func 85) (Array.mk []) (Array.mk []))] h fun v4 h =>
 κ v4 h) := by kernel_rfl

/-- (sort.IntSlice).Len -/
theorem rs_46 (a0 : Value) (h : Heap) (κ : Value → Heap → Prop) : BodyW Tryz.prog 46 [a0] h κ = (
 lenSli False a0 h fun v0 h =>
 κ v0 h) := by kernel_rfl

noncomputable def rs_47_0 (a0 : Value) (l1 : List Value) (N7 : List Value → Heap → Prop) (h : Heap) : Prop :=
 nilB False a0 h fun v9 h =>
 fieldAddrB False 0 v9 h fun v10 h =>
 load1 False v10 h fun v11 h =>
 indexAddrS False 1 v11 (slot l1 21) h fun v12 h =>
 load1 False v12 h fun v13 h =>
 CondW v13 (
 fillB False [(0, 1)] [(slot l1 21)] (repeatL [(Value.int .i64 (0))] 1) fun cs16 => cellsK False cs16 3 false fun o14 => newBlock False o14 h fun b15 h =>
 appendB False 3 1 [(Value.int .i64 (0))] false (slot l1 18) (sliceTo 1 1 b15) h fun v17 h =>
 N7 [a0, v9, v10, v11, (slot l1 21), v12, v13, (slot l1 18), (slot l1 21), (sliceTo 1 1 b15), v17, v17] h) (
 N7 [a0, v9, v10, v11, (slot l1 21), v12, v13, (slot l1 14), (slot l1 15), (slot l1 16), (slot l1 17), (slot l1 18)] h)

noncomputable def rs_47_1 (a0 : Value) (l1 : List Value) (N0 : List Value → Heap → Prop) (h : Heap) (κ : Value → Heap → Prop) : Prop :=
 nilB False a0 h fun v2 h =>
 fieldAddrB False 0 v2 h fun v3 h =>
 load1 False v3 h fun v4 h =>
 lenSli False v4 h fun v5 h =>
 binB False Tryz.prog .lss 3 false false (slot l1 21) v5 h fun v6 h =>
 CondW v6 (
 JoinR (fun N7 =>
 rs_47_0 a0 l1 N7 h) fun l8 h =>
 binB False Tryz.prog .add 3 true false (slot l1 21) (Value.int .i64 (1)) h fun v18 h =>
 N0 [(slot l1 21), a0, v2, v3, v4, v5, v6, (slot l8 0), (slot l8 1), (slot l8 2), (slot l8 3), (slot l8 4), (slot l8 5), (slot l8 6), (slot l8 7), (slot l8 8), (slot l8 9), (slot l8 10), (slot l8 11), (slot l1 21), v18, v18] h) (
 κ (slot l1 18) h)

/-- (*latchstring/latchstringref10.Pool).Each -/
theorem rs_47 (a0 : Value) (h : Heap) (κ : Value → Heap → Prop) : BodyW Tryz.prog 47 [a0] h κ = (
 LoopR [undef, undef, undef, undef, undef, undef, undef, undef, undef, undef, undef, undef, undef, undef, undef, undef, undef, undef, (Value.slice none 0 0), undef, undef, (Value.int .i64 (0))] h fun l1 h N0 =>
 rs_47_1 a0 l1 N0 h κ) := by kernel_rfl

noncomputable def rs_48_0 (v4 : Value) (a1 : Value) (N5 : List Value → Heap → Prop) (v7 : Value) (v8 : Value) (l6 : List Value) (h : Heap) (κ : Value → Heap → Prop) : Prop :=
 entryB False v4 h fun v9 h =>
 extractB False 1 v9 h fun v10 h =>
 nilB False v10 h fun v11 h =>
 loadA False 4 v11 h fun v12 h =>
 CallW Tryz.prog 49 [v12, a1] h fun v13 h =>
 extractB False 0 v13 h fun v14 h =>
 extractB False 1 v13 h fun v15 h =>
 cellsK False [(Value.int .i64 (0)), (Value.int .i64 (0)), (Value.int .i64 (0)), (Value.int .i64 (0)), (Value.int .i64 (0))] 47 false fun o16 => newBlock False o16 h fun b17 h =>
 storeV False 5 (ptrTo b17) v14 h fun v18 h =>
 CondW v15 (
 κ v10 h) (
 N5 [v7, v8, v9, v10, v10, v10, v11, v12, a1, v13, v13, v14, v15, (ptrTo b17), v15, v15, (slot l6 16), (slot l6 17)] h)

noncomputable def rs_48_1 (a0 : Value) (a1 : Value) (h : Heap) (κ : Value → Heap → Prop) : Prop :=
 nilB False a0 h fun v1 h =>
 fieldAddrB False 2 v1 h fun v2 h =>
 load1 False v2 h fun v3 h =>
 rangeB False v3 h fun v4 h =>
 LoopR [undef, undef, undef, undef, undef, undef, undef, undef, undef, undef, undef, undef, undef, undef, undef, undef, undef, (Value.pointer none)] h fun l6 h N5 =>
 nextB False And v4 h fun v7 h =>
 extractB False 0 v7 h fun v8 h =>
 CondW v8 (
 rs_48_0 v4 a1 N5 v7 v8 l6 h κ) (
 κ (Value.pointer none) h)

/-- (*latchstring/bucket.Bucket).of -/
theorem rs_48 (a0 a1 : Value) (h : Heap) (κ : Value → Heap → Prop) : BodyW Tryz.prog 48 [a0, a1] h κ = (
 binB False Tryz.prog .eql 25 true false a0 (Value.pointer none) h fun v0 h =>
 CondW v0 (
 κ (Value.pointer none) h) (
 rs_48_1 a0 a1 h κ)) := by kernel_rfl

/-- latchstring/queue.Find -/
theorem rs_49 (a0 a1 : Value) (h : Heap) (κ : Value → Heap → Prop) : BodyW Tryz.prog 49 [a0, a1] h κ = (
 cellsK False (Value.cells a0).toList 56 false fun o0 => newBlock False o0 h fun b1 h =>
 cellsK False [(Value.int .i64 (0)), (Value.int .i64 (0)), (Value.int .i64 (0)), (Value.int .i64 (0)), (Value.int .i64 (0))] 47 false fun o2 => newBlock False o2 h fun b3 h =>
 loadA False 4 (ptrTo b1) h fun v4 h =>
 fillB False [(0, 4)] [v4] [(Value.int .i64 (0)), (Value.int .i64 (0)), (Value.slice none 0 0), (Value.int .i64 (0))] fun cs5 =>
 CallW Tryz.prog 86 [(Value.agg (Array.mk cs5)), a1] h fun v6 h =>
 binB False Tryz.prog .lss 3 true false v6 (Value.int .i64 (0)) h fun v7 h =>
 CondW v7 (
 fillB False [] [] [(Value.int .i64 (0)), (Value.int .i64 (0)), (Value.int .i64 (0)), (Value.int .i64 (0)), (Value.int .i64 (0))] fun cs8 =>
 storeV False 5 (ptrTo b3) (Value.agg (Array.mk cs8)) h fun v9 h =>
 loadA False 5 (ptrTo b3) h fun v10 _ => κ (Value.tuple (Array.mk [v10, (Value.bool false)])) h) (
 fieldAddrB False 2 (ptrTo b1) h fun v11 h =>
 load1 False v11 h fun v12 h =>
 indexAddrS False 5 v12 v6 h fun v13 h =>
 loadA False 5 v13 h fun v14 h =>
 storeV False 5 (ptrTo b3) v14 h fun v15 h =>
 loadA False 5 (ptrTo b3) h fun v16 _ => κ (Value.tuple (Array.mk [v16, (Value.bool true)])) h)) := by kernel_rfl

noncomputable def rs_50_0 (a0 : Value) (l1 : List Value) (a1 : Value) (N0 : List Value → Heap → Prop) (v2 : Value) (v3 : Value) (v4 : Value) (v5 : Value) (v6 : Value) (h : Heap) (κ : Value → Heap → Prop) : Prop :=
 nilB False a0 h fun v7 h =>
 fieldAddrB False 2 v7 h fun v8 h =>
 load1 False v8 h fun v9 h =>
 indexAddrS False 4 v9 (slot l1 26) h fun v10 h =>
 loadA False 4 v10 h fun v11 h =>
 CallW Tryz.prog 51 [v11, a1] h fun v12 h =>
 extractB False 0 v12 h fun v13 h =>
 extractB False 1 v12 h fun v14 h =>
 cellsK False [(Value.int .i64 (0)), (Value.int .i64 (0)), (Value.int .i64 (0)), (Value.int .i64 (0)), (Value.int .i64 (0))] 47 false fun o15 => newBlock False o15 h fun b16 h =>
 storeV False 5 (ptrTo b16) v13 h fun v17 h =>
 CondW v14 (
 κ (slot l1 26) h) (
 binB False Tryz.prog .add 3 true false (slot l1 26) (Value.int .i64 (1)) h fun v18 h =>
 N0 [(slot l1 26), a0, v2, v3, v4, v5, v6, a0, v7, v8, v9, (slot l1 26), v10, v11, a1, v12, v12, v13, v14, (ptrTo b16), v14, v14, (slot l1 22), (slot l1 23), (slot l1 26), v18, v18] h)

noncomputable def rs_50_1 (a0 : Value) (l1 : List Value) (a1 : Value) (N0 : List Value → Heap → Prop) (h : Heap) (κ : Value → Heap → Prop) : Prop :=
 nilB False a0 h fun v2 h =>
 fieldAddrB False 2 v2 h fun v3 h =>
 load1 False v3 h fun v4 h =>
 lenSli False v4 h fun v5 h =>
 binB False Tryz.prog .lss 3 false false (slot l1 26) v5 h fun v6 h =>
 CondW v6 (
 rs_50_0 a0 l1 a1 N0 v2 v3 v4 v5 v6 h κ) (
 κ (Value.int .i64 (-1)) h)

/-- (*latchstring/latchstringref11.Bucket).of -/
theorem rs_50 (a0 a1 : Value) (h : Heap) (κ : Value → Heap → Prop) : BodyW Tryz.prog 50 [a0, a1] h κ = (
 LoopR [undef, undef, undef, undef, undef, undef, undef, undef, undef, undef, undef, undef, undef, undef, undef, undef, undef, undef, undef, undef, undef, undef, undef, (Value.int .i64 (0)), undef, undef, (Value.int .i64 (0))] h fun l1 h N0 =>
 rs_50_1 a0 l1 a1 N0 h κ) := by kernel_rfl

/-- latchstring/latchstringref09.Find -/
theorem rs_51 (a0 a1 : Value) (h : Heap) (κ : Value → Heap → Prop) : BodyW Tryz.prog 51 [a0, a1] h κ = (
 cellsK False (Value.cells a0).toList 56 false fun o0 => newBlock False o0 h fun b1 h =>
 cellsK False [(Value.int .i64 (0)), (Value.int .i64 (0)), (Value.int .i64 (0)), (Value.int .i64 (0)), (Value.int .i64 (0))] 47 false fun o2 => newBlock False o2 h fun b3 h =>
 loadA False 4 (ptrTo b1) h fun v4 h =>
 CallW Tryz.prog 87 [v4, a1] h fun v5 h =>
 binB False Tryz.prog .lss 3 true false v5 (Value.int .i64 (0)) h fun v6 h =>
 CondW v6 (
 fillB False [] [] [(Value.int .i64 (0)), (Value.int .i64 (0)), (Value.int .i64 (0)), (Value.int .i64 (0)), (Value.int .i64 (0))] fun cs7 =>
 storeV False 5 (ptrTo b3) (Value.agg (Array.mk cs7)) h fun v8 h =>
 loadA False 5 (ptrTo b3) h fun v9 _ => κ (Value.tuple (Array.mk [v9, (Value.bool false)])) h) (
 fieldAddrB False 2 (ptrTo b1) h fun v10 h =>
 load1 False v10 h fun v11 h =>
 indexAddrS False 5 v11 v5 h fun v12 h =>
 loadA False 5 v12 h fun v13 h =>
 storeV False 5 (ptrTo b3) v13 h fun v14 h =>
 loadA False 5 (ptrTo b3) h fun v15 _ => κ (Value.tuple (Array.mk [v15, (Value.bool true)])) h)) := by kernel_rfl

/-- (*latchstring/bucket.Bucket).Find$1 -/
theorem rs_53 (a0 a1 : Value) (h : Heap) (κ : Value → Heap → Prop) : BodyW Tryz.prog 53 [a0, a1] h κ = (
 cellsK False (Value.cells a0).toList 47 false fun o0 => newBlock False o0 h fun b1 h =>
 fieldAddrB False 1 (ptrTo b1) h fun v2 h =>
 load1 False v2 h fun v3 h =>
 load1 False a1 h fun v4 h =>
 binB False Tryz.prog .eql 3 false false v3 v4 h fun v5 h =>
 κ v5 h) := by kernel_rfl

noncomputable def rs_54_0 (a0 : Value) (l3 : List Value) (b1 : Nat) (N2 : List Value → Heap → Prop) (v4 : Value) (v5 : Value) (v6 : Value) (v7 : Value) (v8 : Value) (h : Heap) (κ : Value → Heap → Prop) : Prop :=
 RdK (some a0) h fun v9 h =>
 RdK (nilB none v9 h fun v _ => some v) h fun v10 h =>
 RdK (fieldAddrB none 2 v10 h fun v _ => some v) h fun v11 h =>
 RdK (load1 none v11 h fun v _ => some v) h fun v12 h =>
 RdK (some (slot l3 27)) h fun v13 h =>
 RdK (indexAddrS none 4 v12 v13 h fun v _ => some v) h fun v14 h =>
 RdK (fieldAddrB none 0 v14 h fun v _ => some v) h fun v15 h =>
 RdK (loadA none 2 v15 h fun v _ => some v) h fun v16 h =>
 RdK (loadA none 2 (ptrTo b1) h fun v _ => some v) h fun v17 h =>
 CallW Tryz.prog 88 [v16, v17] h fun v18 h =>
 binB False Tryz.prog .geq 3 true false v18 (Value.int .i64 (0)) h fun v19 h =>
 CondW v19 (
 binB False Tryz.prog .eql 3 true false v18 (Value.int .i64 (0)) h fun v20 h =>
 κ (Value.tuple (Array.mk [(slot l3 27), v20])) h) (
 binB False Tryz.prog .add 3 true false (slot l3 27) (Value.int .i64 (1)) h fun v21 h =>
 N2 [(slot l3 27), a0, v4, v5, v6, v7, v8, v9, v10, v11, v12, v13, v14, v15, v16, v17, v18, v18, v18, v19, (slot l3 20), (slot l3 21), (slot l3 22), (slot l3 23), (slot l3 24), (slot l3 27), v21, v21] h)

noncomputable def rs_54_1 (a0 : Value) (l3 : List Value) (b1 : Nat) (N2 : List Value → Heap → Prop) (h : Heap) (κ : Value → Heap → Prop) : Prop :=
 nilB False a0 h fun v4 h =>
 fieldAddrB False 2 v4 h fun v5 h =>
 load1 False v5 h fun v6 h =>
 lenSli False v6 h fun v7 h =>
 binB False Tryz.prog .lss 3 false false (slot l3 27) v7 h fun v8 h =>
 CondW v8 (
 rs_54_0 a0 l3 b1 N2 v4 v5 v6 v7 v8 h κ) (
 nilB False a0 h fun v22 h =>
 fieldAddrB False 2 v22 h fun v23 h =>
 load1 False v23 h fun v24 h =>
 lenSli False v24 h fun v25 h =>
 κ (Value.tuple (Array.mk [v25, (Value.bool false)])) h)

/-- (*latchstring/latchstringref11.Bucket).place -/
theorem rs_54 (a0 a1 : Value) (h : Heap) (κ : Value → Heap → Prop) : BodyW Tryz.prog 54 [a0, a1] h κ = (
 cellsK False (Value.cells a1).toList 38 false fun o0 => newBlock False o0 h fun b1 h =>
 LoopR [undef, undef, undef, undef, undef, undef, undef, undef, undef, undef, undef, undef, undef, undef, undef, undef, undef, undef, undef, undef, undef, undef, undef, (Value.int .i64 (0)), (Value.bool false), undef, undef, (Value.int .i64 (0))] h fun l3 h N2 =>
 rs_54_1 a0 l3 b1 N2 h κ) := by kernel_rfl

/-- latchstring/latchstringref09.copied -/
theorem rs_55 (a0 : Value) (h : Heap) (κ : Value → Heap → Prop) : BodyW Tryz.prog 55 [a0] h κ = (
 cellsK False (Value.cells a0).toList 56 false fun o0 => newBlock False o0 h fun b1 h =>
 cellsK False [(Value.int .i64 (0)), (Value.int .i64 (0)), (Value.slice none 0 0), (Value.int .i64 (0))] 56 false fun o2 => newBlock False o2 h fun b3 h =>
 fillB False [] [] (repeatL [(Value.int .i64 (0)), (Value.int .i64 (0)), (Value.int .i64 (0)), (Value.int .i64 (0)), (Value.int .i64 (0))] 0) fun cs6 => cellsK False cs6 47 false fun o4 => newBlock False o4 h fun b5 h =>
 fieldAddrB False 2 (ptrTo b1) h fun v7 h =>
 load1 False v7 h fun v8 h =>
 appendB False 47 5 [(Value.int .i64 (0)), (Value.int .i64 (0)), (Value.int .i64 (0)), (Value.int .i64 (0)), (Value.int .i64 (0))] false (sliceTo 0 0 b5) v8 h fun v9 h =>
 fieldAddrB False 2 (ptrTo b1) h fun v10 h =>
 storeV False 1 v10 v9 h fun v11 h =>
 loadA False 4 (ptrTo b1) h fun v12 h =>
 storeV False 4 (ptrTo b3) v12 h fun v13 h =>
 loadA False 4 (ptrTo b3) h fun v14 _ => κ v14 h) := by kernel_rfl

noncomputable def rs_56_0 (b1 : Nat) (l3 : List Value) (N8 : List Value → Heap → Prop) (h : Heap) : Prop :=
 fieldAddrB False 2 (ptrTo b1) h fun v10 h =>
 load1 False v10 h fun v11 h =>
 indexAddrS False 5 v11 (slot l3 36) h fun v12 h =>
 loadA False 5 v12 h fun v13 h =>
 cellsK False [(Value.int .i64 (0)), (Value.int .i64 (0)), (Value.int .i64 (0)), (Value.int .i64 (0)), (Value.int .i64 (0))] 47 false fun o14 => newBlock False o14 h fun b15 h =>
 storeV False 5 (ptrTo b15) v13 h fun v16 h =>
 RdK (loadA none 5 (ptrTo b15) h fun v _ => some v) h fun v17 h =>
 CallW Tryz.prog 61 [v17] h fun v18 h =>
 RdK (some v18) h fun v19 h =>
 GuardW (wantV v19 true) (fun K20 =>
 RdK (loadA none 5 (ptrTo b15) h fun v _ => some v) h K20) h fun v21 h =>
 GuardW (wantV v19 true) (fun K22 =>
 CallW Tryz.prog 60 [v21] h K22) h fun v23 h =>
 RdK (pickB none v19 v23 (Value.bool false) h fun v _ => some v) h fun v24 h =>
 RdK (some v24) h fun v25 h =>
 GuardW (wantV v25 true) (fun K26 =>
 RdK (some (slot l3 33)) h K26) h fun v27 h =>
 GuardW (wantV v25 true) (fun K28 =>
 RdK (binB none Tryz.prog .lss 3 true false v27 (Value.int .i64 (0)) h fun v _ => some v) h K28) h fun v29 h =>
 GuardW (wantV v25 true) (fun K30 =>
 RdK (some v29) h K30) h fun v31 h =>
 GuardW (wantV v31 false) (fun K32 =>
 RdK (fieldAddrB none 4 (ptrTo b15) h fun v _ => some v) h K32) h fun v33 h =>
 GuardW (wantV v31 false) (fun K34 =>
 RdK (load1 none v33 h fun v _ => some v) h K34) h fun v35 h =>
 GuardW (wantV v31 false) (fun K36 =>
 RdK (fieldAddrB none 2 (ptrTo b1) h fun v _ => some v) h K36) h fun v37 h =>
 GuardW (wantV v31 false) (fun K38 =>
 RdK (load1 none v37 h fun v _ => some v) h K38) h fun v39 h =>
 GuardW (wantV v31 false) (fun K40 =>
 RdK (some (slot l3 33)) h K40) h fun v41 h =>
 GuardW (wantV v31 false) (fun K42 =>
 RdK (indexAddrS none 5 v39 v41 h fun v _ => some v) h K42) h fun v43 h =>
 GuardW (wantV v31 false) (fun K44 =>
 RdK (fieldAddrB none 4 v43 h fun v _ => some v) h K44) h fun v45 h =>
 GuardW (wantV v31 false) (fun K46 =>
 RdK (load1 none v45 h fun v _ => some v) h K46) h fun v47 h =>
 GuardW (wantV v31 false) (fun K48 =>
 RdK (binB none Tryz.prog .lss 3 false false v35 v47 h fun v _ => some v) h K48) h fun v49 h =>
 GuardW (wantV v25 true) (fun K50 =>
 RdK (pickB none v31 (Value.bool true) v49 h fun v _ => some v) h K50) h fun v51 h =>
 RdK (pickB none v25 v51 (Value.bool false) h fun v _ => some v) h fun v52 h =>
 CondW v52 (
 N8 [v10, v11, (slot l3 36), v12, v13, (ptrTo b15), v17, v18, v19, v21, v23, v24, v25, v27, v29, v31, v33, v35, v37, v39, v41, v43, v45, v47, v49, v51, v52, (slot l3 36), (slot l3 36)] h) (
 N8 [v10, v11, (slot l3 36), v12, v13, (ptrTo b15), v17, v18, v19, v21, v23, v24, v25, v27, v29, v31, v33, v35, v37, v39, v41, v43, v45, v47, v49, v51, v52, (slot l3 32), (slot l3 33)] h)

noncomputable def rs_56_1 (b1 : Nat) (l3 : List Value) (N2 : List Value → Heap → Prop) (h : Heap) (κ : Value → Heap → Prop) : Prop :=
 fieldAddrB False 2 (ptrTo b1) h fun v4 h =>
 load1 False v4 h fun v5 h =>
 lenSli False v5 h fun v6 h =>
 binB False Tryz.prog .lss 3 false false (slot l3 36) v6 h fun v7 h =>
 CondW v7 (
 JoinR (fun N8 =>
 rs_56_0 b1 l3 N8 h) fun l9 h =>
 binB False Tryz.prog .add 3 true false (slot l3 36) (Value.int .i64 (1)) h fun v53 h =>
 N2 [(slot l3 36), v4, v5, v6, v7, (slot l9 0), (slot l9 1), (slot l9 2), (slot l9 3), (slot l9 4), (slot l9 5), (slot l9 6), (slot l9 7), (slot l9 8), (slot l9 9), (slot l9 10), (slot l9 11), (slot l9 12), (slot l9 13), (slot l9 14), (slot l9 15), (slot l9 16), (slot l9 17), (slot l9 18), (slot l9 19), (slot l9 20), (slot l9 21), (slot l9 22), (slot l9 23), (slot l9 24), (slot l9 25), (slot l9 26), (slot l9 27), (slot l9 28), (slot l3 36), v53, v53] h) (
 κ (slot l3 33) h)

/-- latchstring/latchstringref09.upgrading -/
theorem rs_56 (a0 : Value) (h : Heap) (κ : Value → Heap → Prop) : BodyW Tryz.prog 56 [a0] h κ = (
 cellsK False (Value.cells a0).toList 56 false fun o0 => newBlock False o0 h fun b1 h =>
 LoopR [undef, undef, undef, undef, undef, undef, undef, undef, undef, undef, undef, undef, undef, undef, undef, undef, undef, undef, undef, undef, undef, undef, undef, undef, undef, undef, undef, undef, undef, undef, undef, undef, undef, (Value.int .i64 (-1)), undef, undef, (Value.int .i64 (0))] h fun l3 h N2 =>
 rs_56_1 b1 l3 N2 h κ) := by kernel_rfl

noncomputable def rs_57_0 (b1 : Nat) (l3 : List Value) (N2 : List Value → Heap → Prop) (v4 : Value) (v5 : Value) (v6 : Value) (v7 : Value) (h : Heap) (κ : Value → Heap → Prop) : Prop :=
 fieldAddrB False 2 (ptrTo b1) h fun v8 h =>
 load1 False v8 h fun v9 h =>
 indexAddrS False 5 v9 (slot l3 16) h fun v10 h =>
 loadA False 5 v10 h fun v11 h =>
 CallW Tryz.prog 61 [v11] h fun v12 h =>
 unB False .not v12 h fun v13 h =>
 CondW v13 (
 κ (slot l3 16) h) (
 binB False Tryz.prog .add 3 true false (slot l3 16) (Value.int .i64 (1)) h fun v14 h =>
 N2 [(slot l3 16), v4, v5, v6, v7, v8, v9, (slot l3 16), v10, v11, v12, v13, (slot l3 12), (slot l3 13), (slot l3 16), v14, v14] h)

noncomputable def rs_57_1 (b1 : Nat) (l3 : List Value) (N2 : List Value → Heap → Prop) (h : Heap) (κ : Value → Heap → Prop) : Prop :=
 fieldAddrB False 2 (ptrTo b1) h fun v4 h =>
 load1 False v4 h fun v5 h =>
 lenSli False v5 h fun v6 h =>
 binB False Tryz.prog .lss 3 false false (slot l3 16) v6 h fun v7 h =>
 CondW v7 (
 rs_57_0 b1 l3 N2 v4 v5 v6 v7 h κ) (
 κ (Value.int .i64 (-1)) h)

/-- latchstring/latchstringref09.waiting -/
theorem rs_57 (a0 : Value) (h : Heap) (κ : Value → Heap → Prop) : BodyW Tryz.prog 57 [a0] h κ = (
 cellsK False (Value.cells a0).toList 56 false fun o0 => newBlock False o0 h fun b1 h =>
 LoopR [undef, undef, undef, undef, undef, undef, undef, undef, undef, undef, undef, undef, undef, (Value.int .i64 (0)), undef, undef, (Value.int .i64 (0))] h fun l3 h N2 =>
 rs_57_1 b1 l3 N2 h κ) := by kernel_rfl

noncomputable def rs_58_0 (l3 : List Value) (a2 : Value) (b1 : Nat) (a1 : Value) (N2 : List Value → Heap → Prop) (v4 : Value) (v5 : Value) (v6 : Value) (v7 : Value) (h : Heap) (κ : Value → Heap → Prop) : Prop :=
 binB False Tryz.prog .neq 3 false false (slot l3 30) a2 h fun v8 h =>
 GuardW (wantV v8 true) (fun K9 =>
 fieldAddrB False 2 (ptrTo b1) h K9) h fun v10 h =>
 GuardW (wantV v8 true) (fun K11 =>
 load1 False v10 h K11) h fun v12 h =>
 GuardW (wantV v8 true) (fun K13 =>
 K13 (slot l3 30) h) h fun v14 h =>
 GuardW (wantV v8 true) (fun K15 =>
 indexAddrS False 5 v12 v14 h K15) h fun v16 h =>
 GuardW (wantV v8 true) (fun K17 =>
 loadA False 5 v16 h K17) h fun v18 h =>
 GuardW (wantV v8 true) (fun K19 =>
 CallW Tryz.prog 61 [v18] h K19) h fun v20 h =>
 pickB False v8 v20 (Value.bool false) h fun v21 h =>
 GuardW (wantV v21 true) (fun K22 =>
 fieldAddrB False 2 (ptrTo b1) h K22) h fun v23 h =>
 GuardW (wantV v21 true) (fun K24 =>
 load1 False v23 h K24) h fun v25 h =>
 GuardW (wantV v21 true) (fun K26 =>
 K26 (slot l3 30) h) h fun v27 h =>
 GuardW (wantV v21 true) (fun K28 =>
 indexAddrS False 5 v25 v27 h K28) h fun v29 h =>
 GuardW (wantV v21 true) (fun K30 =>
 fieldAddrB False 2 v29 h K30) h fun v31 h =>
 GuardW (wantV v21 true) (fun K32 =>
 load1 False v31 h K32) h fun v33 h =>
 GuardW (wantV v21 true) (fun K34 =>
 K34 a1 h) h fun v35 h =>
 GuardW (wantV v21 true) (fun K36 =>
 CallW Tryz.prog 62 [v33, v35] h K36) h fun v37 h =>
 GuardW (wantV v21 true) (fun K38 =>
 unB False .not v37 h K38) h fun v39 h =>
 pickB False v21 v39 (Value.bool false) h fun v40 h =>
 CondW v40 (
 κ (Value.bool false) h) (
 binB False Tryz.prog .add 3 true false (slot l3 30) (Value.int .i64 (1)) h fun v41 h =>
 N2 [(slot l3 30), v4, v5, v6, v7, (slot l3 30), a2, v8, v8, v10, v12, v14, v16, v18, v20, v21, v21, v23, v25, v27, v29, v31, v33, v35, v37, v39, v40, (slot l3 27), (slot l3 30), v41, v41] h)

noncomputable def rs_58_1 (b1 : Nat) (l3 : List Value) (a2 : Value) (a1 : Value) (N2 : List Value → Heap → Prop) (h : Heap) (κ : Value → Heap → Prop) : Prop :=
 fieldAddrB False 2 (ptrTo b1) h fun v4 h =>
 load1 False v4 h fun v5 h =>
 lenSli False v5 h fun v6 h =>
 binB False Tryz.prog .lss 3 false false (slot l3 30) v6 h fun v7 h =>
 CondW v7 (
 rs_58_0 l3 a2 b1 a1 N2 v4 v5 v6 v7 h κ) (
 κ (Value.bool true) h)

/-- latchstring/latchstringref09.fits -/
theorem rs_58 (a0 a1 a2 : Value) (h : Heap) (κ : Value → Heap → Prop) : BodyW Tryz.prog 58 [a0, a1, a2] h κ = (
 cellsK False (Value.cells a0).toList 56 false fun o0 => newBlock False o0 h fun b1 h =>
 LoopR [undef, undef, undef, undef, undef, undef, undef, undef, undef, undef, undef, undef, undef, undef, undef, undef, undef, undef, undef, undef, undef, undef, undef, undef, undef, undef, undef, (Value.bool false), undef, undef, (Value.int .i64 (0))] h fun l3 h N2 =>
 rs_58_1 b1 l3 a2 a1 N2 h κ) := by kernel_rfl

/-- latchstring/latchstringref09.Waits -/
theorem rs_60 (a0 : Value) (h : Heap) (κ : Value → Heap → Prop) : BodyW Tryz.prog 60 [a0] h κ = (
 cellsK False (Value.cells a0).toList 47 false fun o0 => newBlock False o0 h fun b1 h =>
 fieldAddrB False 4 (ptrTo b1) h fun v2 h =>
 load1 False v2 h fun v3 h =>
 binB False Tryz.prog .gtr 3 true false v3 (Value.int .i64 (0)) h fun v4 h =>
 κ v4 h) := by kernel_rfl

/-- latchstring/latchstringref09.Holds -/
theorem rs_61 (a0 : Value) (h : Heap) (κ : Value → Heap → Prop) : BodyW Tryz.prog 61 [a0] h κ = (
 cellsK False (Value.cells a0).toList 47 false fun o0 => newBlock False o0 h fun b1 h =>
 fieldAddrB False 2 (ptrTo b1) h fun v2 h =>
 load1 False v2 h fun v3 h =>
 binB False Tryz.prog .neq 39 true false v3 (Value.int .i64 (0)) h fun v4 h =>
 κ v4 h) := by kernel_rfl

/-- latchstring/mode.Known -/
theorem rs_63 (a0 : Value) (h : Heap) (κ : Value → Heap → Prop) : BodyW Tryz.prog 63 [a0] h κ = (
 binB False Tryz.prog .geq 39 true false a0 (Value.int .i64 (0)) h fun v0 h =>
 GuardW (wantV v0 true) (fun K1 =>
 K1 a0 h) h fun v2 h =>
 GuardW (wantV v0 true) (fun K3 =>
 binB False Tryz.prog .leq 39 true false v2 (Value.int .i64 (6)) h K3) h fun v4 h =>
 pickB False v0 v4 (Value.bool false) h fun v5 h =>
 κ v5 h) := by kernel_rfl

noncomputable def rs_64_0 (a0 : Value) (h : Heap) (κ : Value → Heap → Prop) : Prop :=
 nilB False a0 h fun v7 h =>
 fieldAddrB False 0 v7 h fun v8 h =>
 CallW Tryz.prog 91 [(Value.iface 119 v8)] h fun v9 h =>
 typeAssertB False 3 (Value.int .i64 (0)) true v9 h fun v10 h =>
 extractB False 0 v10 h fun v11 h =>
 extractB False 1 v10 h fun v12 h =>
 nilB False a0 h fun v13 h =>
 fieldAddrB False 1 v13 h fun v14 h =>
 load1 False v14 h fun v15 h =>
 indexAddrS False 1 v15 v11 h fun v16 h =>
 storeV False 1 v16 (Value.bool true) h fun v17 h =>
 κ (Value.tuple (Array.mk [v11, (Value.int .i64 (0))])) h

noncomputable def rs_64_1 (a0 : Value) (h : Heap) (κ : Value → Heap → Prop) : Prop :=
 nilB False a0 h fun v1 h =>
 fieldAddrB False 0 v1 h fun v2 h =>
 fieldAddrB False 0 v2 h fun v3 h =>
 load1 False v3 h fun v4 h =>
 CallW Tryz.prog 46 [v4] h fun v5 h =>
 binB False Tryz.prog .eql 3 true false v5 (Value.int .i64 (0)) h fun v6 h =>
 CondW v6 (
 κ (Value.tuple (Array.mk [(Value.int .i64 (0)), (Value.int .i64 (8))])) h) (
 rs_64_0 a0 h κ)

/-- (*latchstring/pool.Pool).Take -/
theorem rs_64 (a0 : Value) (h : Heap) (κ : Value → Heap → Prop) : BodyW Tryz.prog 64 [a0] h κ = (
 binB False Tryz.prog .eql 26 true false a0 (Value.pointer none) h fun v0 h =>
 CondW v0 (
 κ (Value.tuple (Array.mk [(Value.int .i64 (0)), (Value.int .i64 (1))])) h) (
 rs_64_1 a0 h κ)) := by kernel_rfl

noncomputable def rs_65_0 (b29 : Nat) (b35 : Nat) (N47 : List Value → Heap → Prop) (v46 : Value) (h : Heap) : Prop :=
 fieldAddrB False 0 (ptrTo b29) h fun v51 h =>
 fieldAddrB False 3 v51 h fun v52 h =>
 load1 False v52 h fun v53 h =>
 binB False Tryz.prog .add 3 true false v53 (Value.int .i64 (1)) h fun v54 h =>
 fieldAddrB False 0 (ptrTo b29) h fun v55 h =>
 fieldAddrB False 3 v55 h fun v56 h =>
 storeV False 1 v56 v54 h fun v57 h =>
 fieldAddrB False 0 (ptrTo b29) h fun v58 h =>
 fieldAddrB False 3 v58 h fun v59 h =>
 load1 False v59 h fun v60 h =>
 fieldAddrB False 4 (ptrTo b35) h fun v61 h =>
 storeV False 1 v61 v60 h fun v62 h =>
 N47 [v46, undef, undef, v51, v52, v53, v54, v55, v56, v58, v59, v60, v61] h

noncomputable def rs_65_1 (b29 : Nat) (b35 : Nat) (b7 : Nat) (v46 : Value) (h : Heap) (κ : Value → Heap → Prop) : Prop :=
 fieldAddrB False 0 (ptrTo b29) h fun v63 h =>
 fieldAddrB False 2 v63 h fun v64 h =>
 load1 False v64 h fun v65 h =>
 loadA False 5 (ptrTo b35) h fun v66 h =>
 fillB False [(0, 5)] [v66] (repeatL [(Value.int .i64 (0)), (Value.int .i64 (0)), (Value.int .i64 (0)), (Value.int .i64 (0)), (Value.int .i64 (0))] 1) fun cs69 => cellsK False cs69 47 false fun o67 => newBlock False o67 h fun b68 h =>
 appendB False 47 5 [(Value.int .i64 (0)), (Value.int .i64 (0)), (Value.int .i64 (0)), (Value.int .i64 (0)), (Value.int .i64 (0))] false v65 (sliceTo 1 1 b68) h fun v70 h =>
 fieldAddrB False 0 (ptrTo b29) h fun v71 h =>
 fieldAddrB False 2 v71 h fun v72 h =>
 storeV False 1 v72 v70 h fun v73 h =>
 fieldAddrB False 0 (ptrTo b29) h fun v74 h =>
 loadA False 4 v74 h fun v75 h =>
 storeV False 4 (ptrTo b7) v75 h fun v76 h =>
 loadA False 4 (ptrTo b7) h fun v77 _ => κ (Value.tuple (Array.mk [v77, v46, (Value.int .i64 (0))])) h

noncomputable def rs_65_2 (b1 : Nat) (b3 : Nat) (b5 : Nat) (a3 : Value) (b7 : Nat) (h : Heap) (κ : Value → Heap → Prop) : Prop :=
 loadA False 4 (ptrTo b1) h fun v26 h =>
 CallW Tryz.prog 95 [v26] h fun v27 h =>
 cellsK False [(Value.int .i64 (0)), (Value.int .i64 (0)), (Value.slice none 0 0), (Value.int .i64 (0))] 129 false fun o28 => newBlock False o28 h fun b29 h =>
 storeV False 4 (ptrTo b29) v27 h fun v30 h =>
 load1 False (ptrTo b3) h fun v31 h =>
 load1 False (ptrTo b5) h fun v32 h =>
 fillB False [(0, 1), (1, 1), (3, 1)] [v31, v32, a3] [(Value.int .i64 (0)), (Value.int .i64 (0)), (Value.int .i64 (0)), (Value.int .i64 (0)), (Value.int .i64 (0))] fun cs33 =>
 cellsK False [(Value.int .i64 (0)), (Value.int .i64 (0)), (Value.int .i64 (0)), (Value.int .i64 (0)), (Value.int .i64 (0))] 47 false fun o34 => newBlock False o34 h fun b35 h =>
 storeV False 5 (ptrTo b35) (Value.agg (Array.mk cs33)) h fun v36 h =>
 loadA False 4 (ptrTo b29) h fun v37 h =>
 CallW Tryz.prog 96 [v37] h fun v38 h =>
 binB False Tryz.prog .lss 3 true false v38 (Value.int .i64 (0)) h fun v39 h =>
 GuardW (wantV v39 true) (fun K40 =>
 loadA False 4 (ptrTo b29) h K40) h fun v41 h =>
 GuardW (wantV v39 true) (fun K42 =>
 loadA False 5 (ptrTo b35) h K42) h fun v43 h =>
 GuardW (wantV v39 true) (fun K44 =>
 CallW Tryz.prog 97 [v41, v43] h K44) h fun v45 h =>
 pickB False v39 v45 (Value.bool false) h fun v46 h =>
 JoinR (fun N47 =>
 CondW v46 (
 fieldAddrB False 2 (ptrTo b35) h fun v49 h =>
 storeV False 1 v49 a3 h fun v50 h =>
 N47 [v46, a3, v49, undef, undef, undef, undef, undef, undef, undef, undef, undef, undef] h) (
 rs_65_0 b29 b35 N47 v46 h)) fun l48 h =>
 rs_65_1 b29 b35 b7 v46 h κ

noncomputable def rs_65_3 (b1 : Nat) (b3 : Nat) (b5 : Nat) (b7 : Nat) (a3 : Value) (h : Heap) (κ : Value → Heap → Prop) : Prop :=
 fieldAddrB False 2 (ptrTo b1) h fun v20 h =>
 load1 False v20 h fun v21 h =>
 CallW Tryz.prog 93 [v21, (Value.func (.func 94) (Array.mk []) (Array.mk [(ptrTo b3), (ptrTo b5)]))] h fun v22 h =>
 CondW v22 (
 fillB False [] [] [(Value.int .i64 (0)), (Value.int .i64 (0)), (Value.slice none 0 0), (Value.int .i64 (0))] fun cs23 =>
 storeV False 4 (ptrTo b7) (Value.agg (Array.mk cs23)) h fun v24 h =>
 loadA False 4 (ptrTo b7) h fun v25 _ => κ (Value.tuple (Array.mk [v25, (Value.bool false), (Value.int .i64 (4))])) h) (
 rs_65_2 b1 b3 b5 a3 b7 h κ)

/-- latchstring/queue.Ask -/
theorem rs_65 (a0 a1 a2 a3 : Value) (h : Heap) (κ : Value → Heap → Prop) : BodyW Tryz.prog 65 [a0, a1, a2, a3] h κ = (
 cellsK False (Value.cells a0).toList 56 false fun o0 => newBlock False o0 h fun b1 h =>
 cellsK False (Value.cells a1).toList 3 false fun o2 => newBlock False o2 h fun b3 h =>
 cellsK False (Value.cells a2).toList 3 false fun o4 => newBlock False o4 h fun b5 h =>
 cellsK False [(Value.int .i64 (0)), (Value.int .i64 (0)), (Value.slice none 0 0), (Value.int .i64 (0))] 56 false fun o6 => newBlock False o6 h fun b7 h =>
 load1 False (ptrTo b3) h fun v8 h =>
 binB False Tryz.prog .lss 3 true false v8 (Value.int .i64 (0)) h fun v9 h =>
 GuardW (wantV v9 false) (fun K10 =>
 K10 a3 h) h fun v11 h =>
 GuardW (wantV v9 false) (fun K12 =>
 CallW Tryz.prog 92 [v11] h K12) h fun v13 h =>
 GuardW (wantV v9 false) (fun K14 =>
 unB False .not v13 h K14) h fun v15 h =>
 pickB False v9 (Value.bool true) v15 h fun v16 h =>
 CondW v16 (
 fillB False [] [] [(Value.int .i64 (0)), (Value.int .i64 (0)), (Value.slice none 0 0), (Value.int .i64 (0))] fun cs17 =>
 storeV False 4 (ptrTo b7) (Value.agg (Array.mk cs17)) h fun v18 h =>
 loadA False 4 (ptrTo b7) h fun v19 _ => κ (Value.tuple (Array.mk [v19, (Value.bool false), (Value.int .i64 (2))])) h) (
 rs_65_3 b1 b3 b5 b7 a3 h κ)) := by kernel_rfl

noncomputable def rs_66_0 (a0 : Value) (b1 : Nat) (N7 : List Value → Heap → Prop) (v9 : Value) (v10 : Value) (v11 : Value) (v12 : Value) (h : Heap) : Prop :=
 RdK (some a0) h fun v13 h =>
 RdK (nilB none v13 h fun v _ => some v) h fun v14 h =>
 RdK (fieldAddrB none 2 v14 h fun v _ => some v) h fun v15 h =>
 RdK (load1 none v15 h fun v _ => some v) h fun v16 h =>
 RdK (fieldAddrB none 0 (ptrTo b1) h fun v _ => some v) h fun v17 h =>
 RdK (loadA none 2 v17 h fun v _ => some v) h fun v18 h =>
 deleteB False Tryz.prog 38 v16 v18 h fun v19 h =>
 N7 [v9, v10, v11, v12, v13, v14, v15, v16, v17, v18, undef, undef, undef, undef, undef, undef] h

noncomputable def rs_66_1 (a0 : Value) (b1 : Nat) (N7 : List Value → Heap → Prop) (v9 : Value) (v10 : Value) (v11 : Value) (v12 : Value) (h : Heap) : Prop :=
 RdK (some a0) h fun v20 h =>
 RdK (nilB none v20 h fun v _ => some v) h fun v21 h =>
 RdK (fieldAddrB none 2 v21 h fun v _ => some v) h fun v22 h =>
 RdK (load1 none v22 h fun v _ => some v) h fun v23 h =>
 RdK (fieldAddrB none 0 (ptrTo b1) h fun v _ => some v) h fun v24 h =>
 RdK (loadA none 2 v24 h fun v _ => some v) h fun v25 h =>
 mapUpdateB False Tryz.prog 38 v23 v25 (ptrTo b1) h fun v26 h =>
 N7 [v9, v10, v11, v12, undef, undef, undef, undef, undef, undef, v20, v21, v22, v23, v24, v25] h

noncomputable def rs_66_2 (b1 : Nat) (a0 : Value) (N7 : List Value → Heap → Prop) (h : Heap) : Prop :=
 fieldAddrB False 2 (ptrTo b1) h fun v9 h =>
 load1 False v9 h fun v10 h =>
 lenSli False v10 h fun v11 h =>
 binB False Tryz.prog .eql 3 true false v11 (Value.int .i64 (0)) h fun v12 h =>
 CondW v12 (
 rs_66_0 a0 b1 N7 v9 v10 v11 v12 h) (
 rs_66_1 a0 b1 N7 v9 v10 v11 v12 h)

/-- (*latchstring/bucket.Bucket).settle -/
theorem rs_66 (a0 a1 : Value) (h : Heap) (κ : Value → Heap → Prop) : BodyW Tryz.prog 66 [a0, a1] h κ = (
 cellsK False (Value.cells a1).toList 56 false fun o0 => newBlock False o0 h fun b1 h =>
 loadA False 4 (ptrTo b1) h fun v2 h =>
 CallW Tryz.prog 98 [v2] h fun v3 h =>
 extractB False 0 v3 h fun v4 h =>
 extractB False 1 v3 h fun v5 h =>
 storeV False 4 (ptrTo b1) v4 h fun v6 h =>
 JoinR (fun N7 =>
 rs_66_2 b1 a0 N7 h) fun l8 h =>
 κ v5 h) := by kernel_rfl

/-- (*latchstring/bucket.Bucket).none -/
theorem rs_67 (a0 : Value) (h : Heap) (κ : Value → Heap → Prop) : BodyW Tryz.prog 67 [a0] h κ = (
 binB False Tryz.prog .eql 25 true false a0 (Value.pointer none) h fun v0 h =>
 CondW v0 (
 κ (Value.int .i64 (1)) h) (
 κ (Value.int .i64 (5)) h)) := by kernel_rfl

/-- latchstring/queue.Leave -/
theorem rs_68 (a0 a1 : Value) (h : Heap) (κ : Value → Heap → Prop) : BodyW Tryz.prog 68 [a0, a1] h κ = (
 cellsK False (Value.cells a0).toList 56 false fun o0 => newBlock False o0 h fun b1 h =>
 cellsK False [(Value.int .i64 (0)), (Value.int .i64 (0)), (Value.slice none 0 0), (Value.int .i64 (0))] 56 false fun o2 => newBlock False o2 h fun b3 h =>
 loadA False 4 (ptrTo b1) h fun v4 h =>
 CallW Tryz.prog 95 [v4] h fun v5 h =>
 cellsK False [(Value.int .i64 (0)), (Value.int .i64 (0)), (Value.slice none 0 0), (Value.int .i64 (0))] 129 false fun o6 => newBlock False o6 h fun b7 h =>
 storeV False 4 (ptrTo b7) v5 h fun v8 h =>
 loadA False 4 (ptrTo b7) h fun v9 h =>
 CallW Tryz.prog 86 [v9, a1] h fun v10 h =>
 binB False Tryz.prog .lss 3 true false v10 (Value.int .i64 (0)) h fun v11 h =>
 CondW v11 (
 fillB False [] [] [(Value.int .i64 (0)), (Value.int .i64 (0)), (Value.slice none 0 0), (Value.int .i64 (0))] fun cs12 =>
 storeV False 4 (ptrTo b3) (Value.agg (Array.mk cs12)) h fun v13 h =>
 loadA False 4 (ptrTo b3) h fun v14 _ => κ (Value.tuple (Array.mk [v14, (Value.int .i64 (5))])) h) (
 loadA False 4 (ptrTo b7) h fun v15 h =>
 CallW Tryz.prog 99 [v15, a1] h fun v16 h =>
 storeV False 4 (ptrTo b3) v16 h fun v17 h =>
 loadA False 4 (ptrTo b3) h fun v18 _ => κ (Value.tuple (Array.mk [v18, (Value.int .i64 (0))])) h)) := by kernel_rfl

noncomputable def rs_69_0 (a0 : Value) (a1 : Value) (h : Heap) (κ : Value → Heap → Prop) : Prop :=
 nilB False a0 h fun v3 h =>
 fieldAddrB False 1 v3 h fun v4 h =>
 load1 False v4 h fun v5 h =>
 indexAddrS False 1 v5 a1 h fun v6 h =>
 storeV False 1 v6 (Value.bool false) h fun v7 h =>
 nilB False a0 h fun v8 h =>
 fieldAddrB False 0 v8 h fun v9 h =>
 CallW Tryz.prog 70 [(Value.iface 119 v9), (Value.iface 3 a1)] h fun v10 h =>
 κ (Value.int .i64 (0)) h

/-- (*latchstring/pool.Pool).Give -/
theorem rs_69 (a0 a1 : Value) (h : Heap) (κ : Value → Heap → Prop) : BodyW Tryz.prog 69 [a0, a1] h κ = (
 binB False Tryz.prog .eql 26 true false a0 (Value.pointer none) h fun v0 h =>
 CondW v0 (
 κ (Value.int .i64 (1)) h) (
 CallW Tryz.prog 26 [a0, a1] h fun v1 h =>
 unB False .not v1 h fun v2 h =>
 CondW v2 (
 κ (Value.int .i64 (5)) h) (
 rs_69_0 a0 a1 h κ))) := by kernel_rfl

/-- container/heap.Push -/
theorem rs_70 (a0 a1 : Value) (h : Heap) (κ : Value → Heap → Prop) : BodyW Tryz.prog 70 [a0, a1] h κ = (
 CallI Tryz.prog "Push" a0 [a1] h fun v0 h =>
 CallI Tryz.prog "Len" a0 [] h fun v1 h =>
 binB False Tryz.prog .sub 3 true false v1 (Value.int .i64 (1)) h fun v2 h =>
 CallW Tryz.prog 100 [a0, v2] h fun v3 h =>
 κ (Value.tuple (Array.mk [])) h) := by kernel_rfl

noncomputable def rs_71_0 (v32 : Value) (N75 : List Value → Heap → Prop) (v74 : Value) (h : Heap) : Prop :=
 nilB False v32 h fun v77 h =>
 fieldAddrB False 3 v77 h fun v78 h =>
 load1 False v78 h fun v79 h =>
 nilB False v32 h fun v80 h =>
 fieldAddrB False 2 v80 h fun v81 h =>
 storeV False 1 v81 v79 h fun v82 h =>
 N75 [v74, v32, v32, v77, v78, v79, v80, v81, undef, undef, undef, undef, undef, undef, undef, undef, undef, undef, undef, undef] h

noncomputable def rs_71_1 (b12 : Nat) (v32 : Value) (N75 : List Value → Heap → Prop) (v74 : Value) (h : Heap) : Prop :=
 fieldAddrB False 0 (ptrTo b12) h fun v83 h =>
 fieldAddrB False 3 v83 h fun v84 h =>
 load1 False v84 h fun v85 h =>
 binB False Tryz.prog .add 3 true false v85 (Value.int .i64 (1)) h fun v86 h =>
 fieldAddrB False 0 (ptrTo b12) h fun v87 h =>
 fieldAddrB False 3 v87 h fun v88 h =>
 storeV False 1 v88 v86 h fun v89 h =>
 fieldAddrB False 0 (ptrTo b12) h fun v90 h =>
 fieldAddrB False 3 v90 h fun v91 h =>
 load1 False v91 h fun v92 h =>
 nilB False v32 h fun v93 h =>
 fieldAddrB False 4 v93 h fun v94 h =>
 storeV False 1 v94 v92 h fun v95 h =>
 N75 [v74, undef, undef, undef, undef, undef, undef, undef, v83, v84, v85, v86, v87, v88, v32, v90, v91, v92, v93, v94] h

noncomputable def rs_71_2 (b12 : Nat) (v15 : Value) (a2 : Value) (b3 : Nat) (h : Heap) (κ : Value → Heap → Prop) : Prop :=
 fieldAddrB False 0 (ptrTo b12) h fun v29 h =>
 fieldAddrB False 2 v29 h fun v30 h =>
 load1 False v30 h fun v31 h =>
 indexAddrS False 5 v31 v15 h fun v32 h =>
 nilB False v32 h fun v33 h =>
 fieldAddrB False 2 v33 h fun v34 h =>
 load1 False v34 h fun v35 h =>
 CallW Tryz.prog 102 [v35, a2] h fun v36 h =>
 nilB False v32 h fun v37 h =>
 fieldAddrB False 3 v37 h fun v38 h =>
 storeV False 1 v38 v36 h fun v39 h =>
 RdK (some v32) h fun v40 h =>
 RdK (nilB none v40 h fun v _ => some v) h fun v41 h =>
 RdK (fieldAddrB none 3 v41 h fun v _ => some v) h fun v42 h =>
 RdK (load1 none v42 h fun v _ => some v) h fun v43 h =>
 RdK (some v32) h fun v44 h =>
 RdK (nilB none v44 h fun v _ => some v) h fun v45 h =>
 RdK (fieldAddrB none 2 v45 h fun v _ => some v) h fun v46 h =>
 RdK (load1 none v46 h fun v _ => some v) h fun v47 h =>
 RdK (binB none Tryz.prog .eql 39 false false v43 v47 h fun v _ => some v) h fun v48 h =>
 RdK (some v48) h fun v49 h =>
 GuardW (wantV v49 false) (fun K50 =>
 RdK (loadA none 4 (ptrTo b12) h fun v _ => some v) h K50) h fun v51 h =>
 GuardW (wantV v49 false) (fun K52 =>
 RdK (some v32) h K52) h fun v53 h =>
 GuardW (wantV v49 false) (fun K54 =>
 RdK (nilB none v53 h fun v _ => some v) h K54) h fun v55 h =>
 GuardW (wantV v49 false) (fun K56 =>
 RdK (loadA none 5 v55 h fun v _ => some v) h K56) h fun v57 h =>
 GuardW (wantV v49 false) (fun K58 =>
 CallW Tryz.prog 97 [v51, v57] h K58) h fun v59 h =>
 GuardW (wantV v49 false) (fun K60 =>
 RdK (some v59) h K60) h fun v61 h =>
 GuardW (wantV v61 true) (fun K62 =>
 RdK (fieldAddrB none 0 (ptrTo b12) h fun v _ => some v) h K62) h fun v63 h =>
 GuardW (wantV v61 true) (fun K64 =>
 RdK (fieldAddrB none 2 v63 h fun v _ => some v) h K64) h fun v65 h =>
 GuardW (wantV v61 true) (fun K66 =>
 RdK (load1 none v65 h fun v _ => some v) h K66) h fun v67 h =>
 GuardW (wantV v61 true) (fun K68 =>
 CallW Tryz.prog 93 [v67, (Value.func (.func 103) (Array.mk []) (Array.mk []))] h K68) h fun v69 h =>
 GuardW (wantV v61 true) (fun K70 =>
 RdK (unB none .not v69 h fun v _ => some v) h K70) h fun v71 h =>
 GuardW (wantV v49 false) (fun K72 =>
 RdK (pickB none v61 v71 (Value.bool false) h fun v _ => some v) h K72) h fun v73 h =>
 RdK (pickB none v49 (Value.bool true) v73 h fun v _ => some v) h fun v74 h =>
 JoinR (fun N75 =>
 CondW v74 (
 rs_71_0 v32 N75 v74 h) (
 rs_71_1 b12 v32 N75 v74 h)) fun l76 h =>
 fieldAddrB False 0 (ptrTo b12) h fun v96 h =>
 loadA False 4 v96 h fun v97 h =>
 storeV False 4 (ptrTo b3) v97 h fun v98 h =>
 loadA False 4 (ptrTo b3) h fun v99 _ => κ (Value.tuple (Array.mk [v99, v74, (Value.int .i64 (0))])) h

noncomputable def rs_71_3 (b12 : Nat) (v15 : Value) (b3 : Nat) (a2 : Value) (h : Heap) (κ : Value → Heap → Prop) : Prop :=
 fieldAddrB False 0 (ptrTo b12) h fun v20 h =>
 fieldAddrB False 2 v20 h fun v21 h =>
 load1 False v21 h fun v22 h =>
 indexAddrS False 5 v22 v15 h fun v23 h =>
 loadA False 5 v23 h fun v24 h =>
 CallW Tryz.prog 101 [v24] h fun v25 h =>
 CondW v25 (
 fillB False [] [] [(Value.int .i64 (0)), (Value.int .i64 (0)), (Value.slice none 0 0), (Value.int .i64 (0))] fun cs26 =>
 storeV False 4 (ptrTo b3) (Value.agg (Array.mk cs26)) h fun v27 h =>
 loadA False 4 (ptrTo b3) h fun v28 _ => κ (Value.tuple (Array.mk [v28, (Value.bool false), (Value.int .i64 (7))])) h) (
 rs_71_2 b12 v15 a2 b3 h κ)

noncomputable def rs_71_4 (b1 : Nat) (a1 : Value) (b3 : Nat) (a2 : Value) (h : Heap) (κ : Value → Heap → Prop) : Prop :=
 loadA False 4 (ptrTo b1) h fun v9 h =>
 CallW Tryz.prog 95 [v9] h fun v10 h =>
 cellsK False [(Value.int .i64 (0)), (Value.int .i64 (0)), (Value.slice none 0 0), (Value.int .i64 (0))] 129 false fun o11 => newBlock False o11 h fun b12 h =>
 storeV False 4 (ptrTo b12) v10 h fun v13 h =>
 loadA False 4 (ptrTo b12) h fun v14 h =>
 CallW Tryz.prog 86 [v14, a1] h fun v15 h =>
 binB False Tryz.prog .lss 3 true false v15 (Value.int .i64 (0)) h fun v16 h =>
 CondW v16 (
 fillB False [] [] [(Value.int .i64 (0)), (Value.int .i64 (0)), (Value.slice none 0 0), (Value.int .i64 (0))] fun cs17 =>
 storeV False 4 (ptrTo b3) (Value.agg (Array.mk cs17)) h fun v18 h =>
 loadA False 4 (ptrTo b3) h fun v19 _ => κ (Value.tuple (Array.mk [v19, (Value.bool false), (Value.int .i64 (5))])) h) (
 rs_71_3 b12 v15 b3 a2 h κ)

/-- latchstring/queue.Upgrade -/
theorem rs_71 (a0 a1 a2 : Value) (h : Heap) (κ : Value → Heap → Prop) : BodyW Tryz.prog 71 [a0, a1, a2] h κ = (
 cellsK False (Value.cells a0).toList 56 false fun o0 => newBlock False o0 h fun b1 h =>
 cellsK False [(Value.int .i64 (0)), (Value.int .i64 (0)), (Value.slice none 0 0), (Value.int .i64 (0))] 56 false fun o2 => newBlock False o2 h fun b3 h =>
 CallW Tryz.prog 92 [a2] h fun v4 h =>
 unB False .not v4 h fun v5 h =>
 CondW v5 (
 fillB False [] [] [(Value.int .i64 (0)), (Value.int .i64 (0)), (Value.slice none 0 0), (Value.int .i64 (0))] fun cs6 =>
 storeV False 4 (ptrTo b3) (Value.agg (Array.mk cs6)) h fun v7 h =>
 loadA False 4 (ptrTo b3) h fun v8 _ => κ (Value.tuple (Array.mk [v8, (Value.bool false), (Value.int .i64 (2))])) h) (
 rs_71_4 b1 a1 b3 a2 h κ)) := by kernel_rfl

noncomputable def rs_72_0 (b26 : Nat) (v10 : Value) (v33 : Value) (b3 : Nat) (h : Heap) (κ : Value → Heap → Prop) : Prop :=
 fieldAddrB False 2 (ptrTo b26) h fun v64 h =>
 load1 False v64 h fun v65 h =>
 indexAddrS False 5 v65 v10 h fun v66 h =>
 fieldAddrB False 2 v66 h fun v67 h =>
 storeV False 1 v67 v33 h fun v68 h =>
 loadA False 4 (ptrTo b26) h fun v69 h =>
 storeV False 4 (ptrTo b3) v69 h fun v70 h =>
 loadA False 4 (ptrTo b3) h fun v71 _ => κ (Value.tuple (Array.mk [v71, (Value.bool true), (Value.int .i64 (0))])) h

noncomputable def rs_72_1 (b26 : Nat) (v10 : Value) (b3 : Nat) (h : Heap) (κ : Value → Heap → Prop) : Prop :=
 fieldAddrB False 3 (ptrTo b26) h fun v72 h =>
 load1 False v72 h fun v73 h =>
 binB False Tryz.prog .add 3 true false v73 (Value.int .i64 (1)) h fun v74 h =>
 fieldAddrB False 3 (ptrTo b26) h fun v75 h =>
 storeV False 1 v75 v74 h fun v76 h =>
 fieldAddrB False 2 (ptrTo b26) h fun v77 h =>
 load1 False v77 h fun v78 h =>
 fieldAddrB False 3 (ptrTo b26) h fun v79 h =>
 load1 False v79 h fun v80 h =>
 indexAddrS False 5 v78 v10 h fun v81 h =>
 fieldAddrB False 4 v81 h fun v82 h =>
 storeV False 1 v82 v80 h fun v83 h =>
 loadA False 4 (ptrTo b26) h fun v84 h =>
 storeV False 4 (ptrTo b3) v84 h fun v85 h =>
 loadA False 4 (ptrTo b3) h fun v86 _ => κ (Value.tuple (Array.mk [v86, (Value.bool false), (Value.int .i64 (0))])) h

noncomputable def rs_72_2 (b1 : Nat) (v10 : Value) (a2 : Value) (b3 : Nat) (h : Heap) (κ : Value → Heap → Prop) : Prop :=
 loadA False 4 (ptrTo b1) h fun v23 h =>
 CallW Tryz.prog 55 [v23] h fun v24 h =>
 cellsK False [(Value.int .i64 (0)), (Value.int .i64 (0)), (Value.slice none 0 0), (Value.int .i64 (0))] 56 false fun o25 => newBlock False o25 h fun b26 h =>
 storeV False 4 (ptrTo b26) v24 h fun v27 h =>
 fieldAddrB False 2 (ptrTo b1) h fun v28 h =>
 load1 False v28 h fun v29 h =>
 indexAddrS False 5 v29 v10 h fun v30 h =>
 fieldAddrB False 2 v30 h fun v31 h =>
 load1 False v31 h fun v32 h =>
 CallW Tryz.prog 105 [v32, a2] h fun v33 h =>
 fieldAddrB False 2 (ptrTo b26) h fun v34 h =>
 load1 False v34 h fun v35 h =>
 indexAddrS False 5 v35 v10 h fun v36 h =>
 fieldAddrB False 3 v36 h fun v37 h =>
 storeV False 1 v37 v33 h fun v38 h =>
 fieldAddrB False 2 (ptrTo b1) h fun v39 h =>
 load1 False v39 h fun v40 h =>
 indexAddrS False 5 v40 v10 h fun v41 h =>
 fieldAddrB False 2 v41 h fun v42 h =>
 load1 False v42 h fun v43 h =>
 binB False Tryz.prog .eql 39 false false v33 v43 h fun v44 h =>
 GuardW (wantV v44 false) (fun K45 =>
 loadA False 4 (ptrTo b1) h K45) h fun v46 h =>
 GuardW (wantV v44 false) (fun K47 =>
 K47 v33 h) h fun v48 h =>
 GuardW (wantV v44 false) (fun K49 =>
 K49 v10 h) h fun v50 h =>
 GuardW (wantV v44 false) (fun K51 =>
 CallW Tryz.prog 58 [v46, v48, v50] h K51) h fun v52 h =>
 GuardW (wantV v44 false) (fun K53 =>
 K53 v52 h) h fun v54 h =>
 GuardW (wantV v54 true) (fun K55 =>
 loadA False 4 (ptrTo b1) h K55) h fun v56 h =>
 GuardW (wantV v54 true) (fun K57 =>
 CallW Tryz.prog 56 [v56] h K57) h fun v58 h =>
 GuardW (wantV v54 true) (fun K59 =>
 binB False Tryz.prog .lss 3 true false v58 (Value.int .i64 (0)) h K59) h fun v60 h =>
 GuardW (wantV v44 false) (fun K61 =>
 pickB False v54 v60 (Value.bool false) h K61) h fun v62 h =>
 pickB False v44 (Value.bool true) v62 h fun v63 h =>
 CondW v63 (
 rs_72_0 b26 v10 v33 b3 h κ) (
 rs_72_1 b26 v10 b3 h κ)

noncomputable def rs_72_3 (b1 : Nat) (v10 : Value) (b3 : Nat) (a2 : Value) (h : Heap) (κ : Value → Heap → Prop) : Prop :=
 fieldAddrB False 2 (ptrTo b1) h fun v15 h =>
 load1 False v15 h fun v16 h =>
 indexAddrS False 5 v16 v10 h fun v17 h =>
 loadA False 5 v17 h fun v18 h =>
 CallW Tryz.prog 60 [v18] h fun v19 h =>
 CondW v19 (
 fillB False [] [] [(Value.int .i64 (0)), (Value.int .i64 (0)), (Value.slice none 0 0), (Value.int .i64 (0))] fun cs20 =>
 storeV False 4 (ptrTo b3) (Value.agg (Array.mk cs20)) h fun v21 h =>
 loadA False 4 (ptrTo b3) h fun v22 _ => κ (Value.tuple (Array.mk [v22, (Value.bool false), (Value.int .i64 (7))])) h) (
 rs_72_2 b1 v10 a2 b3 h κ)

noncomputable def rs_72_4 (b1 : Nat) (a1 : Value) (b3 : Nat) (a2 : Value) (h : Heap) (κ : Value → Heap → Prop) : Prop :=
 loadA False 4 (ptrTo b1) h fun v9 h =>
 CallW Tryz.prog 87 [v9, a1] h fun v10 h =>
 binB False Tryz.prog .lss 3 true false v10 (Value.int .i64 (0)) h fun v11 h =>
 CondW v11 (
 fillB False [] [] [(Value.int .i64 (0)), (Value.int .i64 (0)), (Value.slice none 0 0), (Value.int .i64 (0))] fun cs12 =>
 storeV False 4 (ptrTo b3) (Value.agg (Array.mk cs12)) h fun v13 h =>
 loadA False 4 (ptrTo b3) h fun v14 _ => κ (Value.tuple (Array.mk [v14, (Value.bool false), (Value.int .i64 (5))])) h) (
 rs_72_3 b1 v10 b3 a2 h κ)

/-- latchstring/latchstringref09.Upgrade -/
theorem rs_72 (a0 a1 a2 : Value) (h : Heap) (κ : Value → Heap → Prop) : BodyW Tryz.prog 72 [a0, a1, a2] h κ = (
 cellsK False (Value.cells a0).toList 56 false fun o0 => newBlock False o0 h fun b1 h =>
 cellsK False [(Value.int .i64 (0)), (Value.int .i64 (0)), (Value.slice none 0 0), (Value.int .i64 (0))] 56 false fun o2 => newBlock False o2 h fun b3 h =>
 CallW Tryz.prog 104 [a2] h fun v4 h =>
 unB False .not v4 h fun v5 h =>
 CondW v5 (
 fillB False [] [] [(Value.int .i64 (0)), (Value.int .i64 (0)), (Value.slice none 0 0), (Value.int .i64 (0))] fun cs6 =>
 storeV False 4 (ptrTo b3) (Value.agg (Array.mk cs6)) h fun v7 h =>
 loadA False 4 (ptrTo b3) h fun v8 _ => κ (Value.tuple (Array.mk [v8, (Value.bool false), (Value.int .i64 (2))])) h) (
 rs_72_4 b1 a1 b3 a2 h κ)) := by kernel_rfl

/-- latchstring/latchstringref09.Leave -/
theorem rs_73 (a0 a1 : Value) (h : Heap) (κ : Value → Heap → Prop) : BodyW Tryz.prog 73 [a0, a1] h κ = (
 cellsK False (Value.cells a0).toList 56 false fun o0 => newBlock False o0 h fun b1 h =>
 cellsK False [(Value.int .i64 (0)), (Value.int .i64 (0)), (Value.slice none 0 0), (Value.int .i64 (0))] 56 false fun o2 => newBlock False o2 h fun b3 h =>
 loadA False 4 (ptrTo b1) h fun v4 h =>
 CallW Tryz.prog 87 [v4, a1] h fun v5 h =>
 binB False Tryz.prog .lss 3 true false v5 (Value.int .i64 (0)) h fun v6 h =>
 CondW v6 (
 fillB False [] [] [(Value.int .i64 (0)), (Value.int .i64 (0)), (Value.slice none 0 0), (Value.int .i64 (0))] fun cs7 =>
 storeV False 4 (ptrTo b3) (Value.agg (Array.mk cs7)) h fun v8 h =>
 loadA False 4 (ptrTo b3) h fun v9 _ => κ (Value.tuple (Array.mk [v9, (Value.int .i64 (5))])) h) (
 loadA False 4 (ptrTo b1) h fun v10 h =>
 CallW Tryz.prog 106 [v10, v5] h fun v11 h =>
 storeV False 4 (ptrTo b3) v11 h fun v12 h =>
 loadA False 4 (ptrTo b3) h fun v13 _ => κ (Value.tuple (Array.mk [v13, (Value.int .i64 (0))])) h)) := by kernel_rfl

/-- (*latchstring/latchstringref10.Pool).Give -/
theorem rs_74 (a0 a1 : Value) (h : Heap) (κ : Value → Heap → Prop) : BodyW Tryz.prog 74 [a0, a1] h κ = (
 CallW Tryz.prog 107 [a0, a1] h fun v0 h =>
 unB False .not v0 h fun v1 h =>
 CondW v1 (
 κ (Value.int .i64 (5)) h) (
 nilB False a0 h fun v2 h =>
 fieldAddrB False 0 v2 h fun v3 h =>
 load1 False v3 h fun v4 h =>
 indexAddrS False 1 v4 a1 h fun v5 h =>
 storeV False 1 v5 (Value.bool false) h fun v6 h =>
 κ (Value.int .i64 (0)) h)) := by kernel_rfl

noncomputable def rs_75_0 (a0 : Value) (a1 : Value) (N15 : List Value → Heap → Prop) (v17 : Value) (v18 : Value) (v19 : Value) (v20 : Value) (h : Heap) : Prop :=
 fillB False [] [] (repeatL [(Value.int .i64 (0)), (Value.int .i64 (0)), (Value.slice none 0 0), (Value.int .i64 (0))] 0) fun cs23 => cellsK False cs23 56 false fun o21 => newBlock False o21 h fun b22 h =>
 nilB False a0 h fun v24 h =>
 fieldAddrB False 2 v24 h fun v25 h =>
 load1 False v25 h fun v26 h =>
 sliceB False 56 4 v26 none (some a1) none h fun v27 h =>
 appendB False 56 4 [(Value.int .i64 (0)), (Value.int .i64 (0)), (Value.slice none 0 0), (Value.int .i64 (0))] false (sliceTo 0 0 b22) v27 h fun v28 h =>
 nilB False a0 h fun v29 h =>
 fieldAddrB False 2 v29 h fun v30 h =>
 load1 False v30 h fun v31 h =>
 binB False Tryz.prog .add 3 true false a1 (Value.int .i64 (1)) h fun v32 h =>
 sliceB False 56 4 v31 (some v32) none none h fun v33 h =>
 appendB False 56 4 [(Value.int .i64 (0)), (Value.int .i64 (0)), (Value.slice none 0 0), (Value.int .i64 (0))] false v28 v33 h fun v34 h =>
 nilB False a0 h fun v35 h =>
 fieldAddrB False 2 v35 h fun v36 h =>
 storeV False 1 v36 v34 h fun v37 h =>
 N15 [v17, v18, v19, v20, (sliceTo 0 0 b22), a0, v24, v25, v26, a1, v27, v28, v28, a0, v28, a0, v29, v30, v31, a1, v32, v33, v34, v35, v36] h

noncomputable def rs_75_1 (b1 : Nat) (a0 : Value) (a1 : Value) (N15 : List Value → Heap → Prop) (h : Heap) : Prop :=
 fieldAddrB False 2 (ptrTo b1) h fun v17 h =>
 load1 False v17 h fun v18 h =>
 lenSli False v18 h fun v19 h =>
 binB False Tryz.prog .eql 3 true false v19 (Value.int .i64 (0)) h fun v20 h =>
 CondW v20 (
 rs_75_0 a0 a1 N15 v17 v18 v19 v20 h) (
 N15 [v17, v18, v19, v20, undef, undef, undef, undef, undef, undef, undef, undef, undef, undef, undef, undef, undef, undef, undef, undef, undef, undef, undef, undef, undef] h)

/-- (*latchstring/latchstringref11.Bucket).end -/
theorem rs_75 (a0 a1 a2 : Value) (h : Heap) (κ : Value → Heap → Prop) : BodyW Tryz.prog 75 [a0, a1, a2] h κ = (
 cellsK False (Value.cells a2).toList 56 false fun o0 => newBlock False o0 h fun b1 h =>
 loadA False 4 (ptrTo b1) h fun v2 h =>
 CallW Tryz.prog 24 [v2] h fun v3 h =>
 extractB False 0 v3 h fun v4 h =>
 extractB False 1 v3 h fun v5 h =>
 storeV False 4 (ptrTo b1) v4 h fun v6 h =>
 RdK (some a0) h fun v7 h =>
 RdK (nilB none v7 h fun v _ => some v) h fun v8 h =>
 RdK (fieldAddrB none 2 v8 h fun v _ => some v) h fun v9 h =>
 RdK (load1 none v9 h fun v _ => some v) h fun v10 h =>
 RdK (some a1) h fun v11 h =>
 RdK (loadA none 4 (ptrTo b1) h fun v _ => some v) h fun v12 h =>
 RdK (indexAddrS none 4 v10 v11 h fun v _ => some v) h fun v13 h =>
 storeV False 4 v13 v12 h fun v14 h =>
 JoinR (fun N15 =>
 rs_75_1 b1 a0 a1 N15 h) fun l16 h =>
 κ v5 h) := by kernel_rfl

noncomputable def rs_76_0 (b7 : Nat) (v10 : Value) (b3 : Nat) (h : Heap) (κ : Value → Heap → Prop) : Prop :=
 RdK (fieldAddrB none 0 (ptrTo b7) h fun v _ => some v) h fun v36 h =>
 RdK (fieldAddrB none 2 v36 h fun v _ => some v) h fun v37 h =>
 RdK (load1 none v37 h fun v _ => some v) h fun v38 h =>
 RdK (some v10) h fun v39 h =>
 RdK (fieldAddrB none 0 (ptrTo b7) h fun v _ => some v) h fun v40 h =>
 RdK (fieldAddrB none 2 v40 h fun v _ => some v) h fun v41 h =>
 RdK (load1 none v41 h fun v _ => some v) h fun v42 h =>
 RdK (some v10) h fun v43 h =>
 RdK (fieldAddrB none 0 (ptrTo b7) h fun v _ => some v) h fun v44 h =>
 RdK (fieldAddrB none 2 v44 h fun v _ => some v) h fun v45 h =>
 RdK (load1 none v45 h fun v _ => some v) h fun v46 h =>
 RdK (some v10) h fun v47 h =>
 RdK (indexAddrS none 5 v46 v47 h fun v _ => some v) h fun v48 h =>
 RdK (fieldAddrB none 2 v48 h fun v _ => some v) h fun v49 h =>
 RdK (load1 none v49 h fun v _ => some v) h fun v50 h =>
 RdK (indexAddrS none 5 v38 v39 h fun v _ => some v) h fun v51 h =>
 RdK (fieldAddrB none 3 v51 h fun v _ => some v) h fun v52 h =>
 storeV False 1 v52 v50 h fun v53 h =>
 SameK ((reV (fieldAddrB none 0 (ptrTo b7) h fun v _ => some v) v40) && ((reV (fieldAddrB none 2 v40 h fun v _ => some v) v41) && ((reV (load1 none v41 h fun v _ => some v) v42) && ((reV (some v10) v43) && true)))) (RdK (indexAddrS none 5 v42 v43 h fun v _ => some v) h fun v54 h =>
 RdK (fieldAddrB none 4 v54 h fun v _ => some v) h fun v55 h =>
 storeV False 1 v55 (Value.int .i64 (0)) h fun v56 h =>
 fieldAddrB False 0 (ptrTo b7) h fun v57 h =>
 loadA False 4 v57 h fun v58 h =>
 storeV False 4 (ptrTo b3) v58 h fun v59 h =>
 loadA False 4 (ptrTo b3) h fun v60 _ => κ (Value.tuple (Array.mk [v60, (Value.int .i64 (0))])) h)

noncomputable def rs_76_1 (b7 : Nat) (v10 : Value) (a1 : Value) (b3 : Nat) (h : Heap) (κ : Value → Heap → Prop) : Prop :=
 fieldAddrB False 0 (ptrTo b7) h fun v25 h =>
 fieldAddrB False 2 v25 h fun v26 h =>
 load1 False v26 h fun v27 h =>
 indexAddrS False 5 v27 v10 h fun v28 h =>
 loadA False 5 v28 h fun v29 h =>
 CallW Tryz.prog 108 [v29] h fun v30 h =>
 unB False .not v30 h fun v31 h =>
 CondW v31 (
 loadA False 4 (ptrTo b7) h fun v32 h =>
 CallW Tryz.prog 99 [v32, a1] h fun v33 h =>
 storeV False 4 (ptrTo b3) v33 h fun v34 h =>
 loadA False 4 (ptrTo b3) h fun v35 _ => κ (Value.tuple (Array.mk [v35, (Value.int .i64 (0))])) h) (
 rs_76_0 b7 v10 b3 h κ)

noncomputable def rs_76_2 (b7 : Nat) (v10 : Value) (b3 : Nat) (a1 : Value) (h : Heap) (κ : Value → Heap → Prop) : Prop :=
 fieldAddrB False 0 (ptrTo b7) h fun v15 h =>
 fieldAddrB False 2 v15 h fun v16 h =>
 load1 False v16 h fun v17 h =>
 indexAddrS False 5 v17 v10 h fun v18 h =>
 loadA False 5 v18 h fun v19 h =>
 CallW Tryz.prog 101 [v19] h fun v20 h =>
 unB False .not v20 h fun v21 h =>
 CondW v21 (
 fillB False [] [] [(Value.int .i64 (0)), (Value.int .i64 (0)), (Value.slice none 0 0), (Value.int .i64 (0))] fun cs22 =>
 storeV False 4 (ptrTo b3) (Value.agg (Array.mk cs22)) h fun v23 h =>
 loadA False 4 (ptrTo b3) h fun v24 _ => κ (Value.tuple (Array.mk [v24, (Value.int .i64 (7))])) h) (
 rs_76_1 b7 v10 a1 b3 h κ)

/-- latchstring/queue.Abandon -/
theorem rs_76 (a0 a1 : Value) (h : Heap) (κ : Value → Heap → Prop) : BodyW Tryz.prog 76 [a0, a1] h κ = (
 cellsK False (Value.cells a0).toList 56 false fun o0 => newBlock False o0 h fun b1 h =>
 cellsK False [(Value.int .i64 (0)), (Value.int .i64 (0)), (Value.slice none 0 0), (Value.int .i64 (0))] 56 false fun o2 => newBlock False o2 h fun b3 h =>
 loadA False 4 (ptrTo b1) h fun v4 h =>
 CallW Tryz.prog 95 [v4] h fun v5 h =>
 cellsK False [(Value.int .i64 (0)), (Value.int .i64 (0)), (Value.slice none 0 0), (Value.int .i64 (0))] 129 false fun o6 => newBlock False o6 h fun b7 h =>
 storeV False 4 (ptrTo b7) v5 h fun v8 h =>
 loadA False 4 (ptrTo b7) h fun v9 h =>
 CallW Tryz.prog 86 [v9, a1] h fun v10 h =>
 binB False Tryz.prog .lss 3 true false v10 (Value.int .i64 (0)) h fun v11 h =>
 CondW v11 (
 fillB False [] [] [(Value.int .i64 (0)), (Value.int .i64 (0)), (Value.slice none 0 0), (Value.int .i64 (0))] fun cs12 =>
 storeV False 4 (ptrTo b3) (Value.agg (Array.mk cs12)) h fun v13 h =>
 loadA False 4 (ptrTo b3) h fun v14 _ => κ (Value.tuple (Array.mk [v14, (Value.int .i64 (5))])) h) (
 rs_76_2 b7 v10 b3 a1 h κ)) := by kernel_rfl

noncomputable def rs_77_0 (b1 : Nat) (v5 : Value) (b3 : Nat) (h : Heap) (κ : Value → Heap → Prop) : Prop :=
 loadA False 4 (ptrTo b1) h fun v29 h =>
 CallW Tryz.prog 55 [v29] h fun v30 h =>
 cellsK False [(Value.int .i64 (0)), (Value.int .i64 (0)), (Value.slice none 0 0), (Value.int .i64 (0))] 56 false fun o31 => newBlock False o31 h fun b32 h =>
 storeV False 4 (ptrTo b32) v30 h fun v33 h =>
 RdK (fieldAddrB none 2 (ptrTo b32) h fun v _ => some v) h fun v34 h =>
 RdK (load1 none v34 h fun v _ => some v) h fun v35 h =>
 RdK (some v5) h fun v36 h =>
 RdK (fieldAddrB none 2 (ptrTo b32) h fun v _ => some v) h fun v37 h =>
 RdK (load1 none v37 h fun v _ => some v) h fun v38 h =>
 RdK (some v5) h fun v39 h =>
 RdK (fieldAddrB none 2 (ptrTo b32) h fun v _ => some v) h fun v40 h =>
 RdK (load1 none v40 h fun v _ => some v) h fun v41 h =>
 RdK (some v5) h fun v42 h =>
 RdK (indexAddrS none 5 v41 v42 h fun v _ => some v) h fun v43 h =>
 RdK (fieldAddrB none 2 v43 h fun v _ => some v) h fun v44 h =>
 RdK (load1 none v44 h fun v _ => some v) h fun v45 h =>
 RdK (indexAddrS none 5 v35 v36 h fun v _ => some v) h fun v46 h =>
 RdK (fieldAddrB none 3 v46 h fun v _ => some v) h fun v47 h =>
 storeV False 1 v47 v45 h fun v48 h =>
 SameK ((reV (fieldAddrB none 2 (ptrTo b32) h fun v _ => some v) v37) && ((reV (load1 none v37 h fun v _ => some v) v38) && ((reV (some v5) v39) && true))) (RdK (indexAddrS none 5 v38 v39 h fun v _ => some v) h fun v49 h =>
 RdK (fieldAddrB none 4 v49 h fun v _ => some v) h fun v50 h =>
 storeV False 1 v50 (Value.int .i64 (0)) h fun v51 h =>
 loadA False 4 (ptrTo b32) h fun v52 h =>
 storeV False 4 (ptrTo b3) v52 h fun v53 h =>
 loadA False 4 (ptrTo b3) h fun v54 _ => κ (Value.tuple (Array.mk [v54, (Value.int .i64 (0))])) h)

noncomputable def rs_77_1 (b1 : Nat) (v5 : Value) (b3 : Nat) (h : Heap) (κ : Value → Heap → Prop) : Prop :=
 fieldAddrB False 2 (ptrTo b1) h fun v19 h =>
 load1 False v19 h fun v20 h =>
 indexAddrS False 5 v20 v5 h fun v21 h =>
 loadA False 5 v21 h fun v22 h =>
 CallW Tryz.prog 61 [v22] h fun v23 h =>
 unB False .not v23 h fun v24 h =>
 CondW v24 (
 loadA False 4 (ptrTo b1) h fun v25 h =>
 CallW Tryz.prog 106 [v25, v5] h fun v26 h =>
 storeV False 4 (ptrTo b3) v26 h fun v27 h =>
 loadA False 4 (ptrTo b3) h fun v28 _ => κ (Value.tuple (Array.mk [v28, (Value.int .i64 (0))])) h) (
 rs_77_0 b1 v5 b3 h κ)

noncomputable def rs_77_2 (b1 : Nat) (v5 : Value) (b3 : Nat) (h : Heap) (κ : Value → Heap → Prop) : Prop :=
 fieldAddrB False 2 (ptrTo b1) h fun v10 h =>
 load1 False v10 h fun v11 h =>
 indexAddrS False 5 v11 v5 h fun v12 h =>
 loadA False 5 v12 h fun v13 h =>
 CallW Tryz.prog 60 [v13] h fun v14 h =>
 unB False .not v14 h fun v15 h =>
 CondW v15 (
 fillB False [] [] [(Value.int .i64 (0)), (Value.int .i64 (0)), (Value.slice none 0 0), (Value.int .i64 (0))] fun cs16 =>
 storeV False 4 (ptrTo b3) (Value.agg (Array.mk cs16)) h fun v17 h =>
 loadA False 4 (ptrTo b3) h fun v18 _ => κ (Value.tuple (Array.mk [v18, (Value.int .i64 (7))])) h) (
 rs_77_1 b1 v5 b3 h κ)

/-- latchstring/latchstringref09.Abandon -/
theorem rs_77 (a0 a1 : Value) (h : Heap) (κ : Value → Heap → Prop) : BodyW Tryz.prog 77 [a0, a1] h κ = (
 cellsK False (Value.cells a0).toList 56 false fun o0 => newBlock False o0 h fun b1 h =>
 cellsK False [(Value.int .i64 (0)), (Value.int .i64 (0)), (Value.slice none 0 0), (Value.int .i64 (0))] 56 false fun o2 => newBlock False o2 h fun b3 h =>
 loadA False 4 (ptrTo b1) h fun v4 h =>
 CallW Tryz.prog 87 [v4, a1] h fun v5 h =>
 binB False Tryz.prog .lss 3 true false v5 (Value.int .i64 (0)) h fun v6 h =>
 CondW v6 (
 fillB False [] [] [(Value.int .i64 (0)), (Value.int .i64 (0)), (Value.slice none 0 0), (Value.int .i64 (0))] fun cs7 =>
 storeV False 4 (ptrTo b3) (Value.agg (Array.mk cs7)) h fun v8 h =>
 loadA False 4 (ptrTo b3) h fun v9 _ => κ (Value.tuple (Array.mk [v9, (Value.int .i64 (5))])) h) (
 rs_77_2 b1 v5 b3 h κ)) := by kernel_rfl

noncomputable def rs_78_0 (b11 : Nat) (b5 : Nat) (v15 : Value) (b7 : Nat) (h : Heap) (κ : Value → Heap → Prop) : Prop :=
 fieldAddrB False 0 (ptrTo b11) h fun v36 h =>
 fieldAddrB False 2 v36 h fun v37 h =>
 load1 False v37 h fun v38 h =>
 load1 False (ptrTo b5) h fun v39 h =>
 indexAddrS False 5 v38 v15 h fun v40 h =>
 fieldAddrB False 1 v40 h fun v41 h =>
 storeV False 1 v41 v39 h fun v42 h =>
 fieldAddrB False 0 (ptrTo b11) h fun v43 h =>
 loadA False 4 v43 h fun v44 h =>
 storeV False 4 (ptrTo b7) v44 h fun v45 h =>
 loadA False 4 (ptrTo b7) h fun v46 _ => κ (Value.tuple (Array.mk [v46, (Value.int .i64 (0))])) h

noncomputable def rs_78_1 (b11 : Nat) (v15 : Value) (b7 : Nat) (b5 : Nat) (h : Heap) (κ : Value → Heap → Prop) : Prop :=
 fieldAddrB False 0 (ptrTo b11) h fun v27 h =>
 fieldAddrB False 2 v27 h fun v28 h =>
 load1 False v28 h fun v29 h =>
 indexAddrS False 5 v29 v15 h fun v30 h =>
 loadA False 5 v30 h fun v31 h =>
 CallW Tryz.prog 101 [v31] h fun v32 h =>
 CondW v32 (
 fillB False [] [] [(Value.int .i64 (0)), (Value.int .i64 (0)), (Value.slice none 0 0), (Value.int .i64 (0))] fun cs33 =>
 storeV False 4 (ptrTo b7) (Value.agg (Array.mk cs33)) h fun v34 h =>
 loadA False 4 (ptrTo b7) h fun v35 _ => κ (Value.tuple (Array.mk [v35, (Value.int .i64 (7))])) h) (
 rs_78_0 b11 b5 v15 b7 h κ)

noncomputable def rs_78_2 (b11 : Nat) (b3 : Nat) (b5 : Nat) (b7 : Nat) (v15 : Value) (h : Heap) (κ : Value → Heap → Prop) : Prop :=
 fieldAddrB False 0 (ptrTo b11) h fun v20 h =>
 fieldAddrB False 2 v20 h fun v21 h =>
 load1 False v21 h fun v22 h =>
 CallW Tryz.prog 93 [v22, (Value.func (.func 109) (Array.mk []) (Array.mk [(ptrTo b3), (ptrTo b5)]))] h fun v23 h =>
 CondW v23 (
 fillB False [] [] [(Value.int .i64 (0)), (Value.int .i64 (0)), (Value.slice none 0 0), (Value.int .i64 (0))] fun cs24 =>
 storeV False 4 (ptrTo b7) (Value.agg (Array.mk cs24)) h fun v25 h =>
 loadA False 4 (ptrTo b7) h fun v26 _ => κ (Value.tuple (Array.mk [v26, (Value.int .i64 (4))])) h) (
 rs_78_1 b11 v15 b7 b5 h κ)

/-- latchstring/queue.Hand -/
theorem rs_78 (a0 a1 a2 : Value) (h : Heap) (κ : Value → Heap → Prop) : BodyW Tryz.prog 78 [a0, a1, a2] h κ = (
 cellsK False (Value.cells a0).toList 56 false fun o0 => newBlock False o0 h fun b1 h =>
 cellsK False (Value.cells a1).toList 3 false fun o2 => newBlock False o2 h fun b3 h =>
 cellsK False (Value.cells a2).toList 3 false fun o4 => newBlock False o4 h fun b5 h =>
 cellsK False [(Value.int .i64 (0)), (Value.int .i64 (0)), (Value.slice none 0 0), (Value.int .i64 (0))] 56 false fun o6 => newBlock False o6 h fun b7 h =>
 loadA False 4 (ptrTo b1) h fun v8 h =>
 CallW Tryz.prog 95 [v8] h fun v9 h =>
 cellsK False [(Value.int .i64 (0)), (Value.int .i64 (0)), (Value.slice none 0 0), (Value.int .i64 (0))] 129 false fun o10 => newBlock False o10 h fun b11 h =>
 storeV False 4 (ptrTo b11) v9 h fun v12 h =>
 loadA False 4 (ptrTo b11) h fun v13 h =>
 load1 False (ptrTo b3) h fun v14 h =>
 CallW Tryz.prog 86 [v13, v14] h fun v15 h =>
 binB False Tryz.prog .lss 3 true false v15 (Value.int .i64 (0)) h fun v16 h =>
 CondW v16 (
 fillB False [] [] [(Value.int .i64 (0)), (Value.int .i64 (0)), (Value.slice none 0 0), (Value.int .i64 (0))] fun cs17 =>
 storeV False 4 (ptrTo b7) (Value.agg (Array.mk cs17)) h fun v18 h =>
 loadA False 4 (ptrTo b7) h fun v19 _ => κ (Value.tuple (Array.mk [v19, (Value.int .i64 (5))])) h) (
 rs_78_2 b11 b3 b5 b7 v15 h κ)) := by kernel_rfl

noncomputable def rs_79_0 (b1 : Nat) (v5 : Value) (a2 : Value) (b3 : Nat) (h : Heap) (κ : Value → Heap → Prop) : Prop :=
 loadA False 4 (ptrTo b1) h fun v46 h =>
 CallW Tryz.prog 55 [v46] h fun v47 h =>
 cellsK False [(Value.int .i64 (0)), (Value.int .i64 (0)), (Value.slice none 0 0), (Value.int .i64 (0))] 56 false fun o48 => newBlock False o48 h fun b49 h =>
 storeV False 4 (ptrTo b49) v47 h fun v50 h =>
 fieldAddrB False 2 (ptrTo b49) h fun v51 h =>
 load1 False v51 h fun v52 h =>
 indexAddrS False 5 v52 v5 h fun v53 h =>
 fieldAddrB False 1 v53 h fun v54 h =>
 storeV False 1 v54 a2 h fun v55 h =>
 loadA False 4 (ptrTo b49) h fun v56 h =>
 storeV False 4 (ptrTo b3) v56 h fun v57 h =>
 loadA False 4 (ptrTo b3) h fun v58 _ => κ (Value.tuple (Array.mk [v58, (Value.int .i64 (0))])) h

noncomputable def rs_79_1 (l11 : List Value) (v5 : Value) (b1 : Nat) (a2 : Value) (b3 : Nat) (N10 : List Value → Heap → Prop) (v12 : Value) (v13 : Value) (v14 : Value) (v15 : Value) (h : Heap) (κ : Value → Heap → Prop) : Prop :=
 binB False Tryz.prog .neq 3 false false (slot l11 22) v5 h fun v16 h =>
 GuardW (wantV v16 true) (fun K17 =>
 fieldAddrB False 2 (ptrTo b1) h K17) h fun v18 h =>
 GuardW (wantV v16 true) (fun K19 =>
 load1 False v18 h K19) h fun v20 h =>
 GuardW (wantV v16 true) (fun K21 =>
 K21 (slot l11 22) h) h fun v22 h =>
 GuardW (wantV v16 true) (fun K23 =>
 indexAddrS False 5 v20 v22 h K23) h fun v24 h =>
 GuardW (wantV v16 true) (fun K25 =>
 fieldAddrB False 1 v24 h K25) h fun v26 h =>
 GuardW (wantV v16 true) (fun K27 =>
 load1 False v26 h K27) h fun v28 h =>
 GuardW (wantV v16 true) (fun K29 =>
 K29 a2 h) h fun v30 h =>
 GuardW (wantV v16 true) (fun K31 =>
 binB False Tryz.prog .eql 3 false false v28 v30 h K31) h fun v32 h =>
 pickB False v16 v32 (Value.bool false) h fun v33 h =>
 CondW v33 (
 fillB False [] [] [(Value.int .i64 (0)), (Value.int .i64 (0)), (Value.slice none 0 0), (Value.int .i64 (0))] fun cs34 =>
 storeV False 4 (ptrTo b3) (Value.agg (Array.mk cs34)) h fun v35 h =>
 loadA False 4 (ptrTo b3) h fun v36 _ => κ (Value.tuple (Array.mk [v36, (Value.int .i64 (4))])) h) (
 binB False Tryz.prog .add 3 true false (slot l11 22) (Value.int .i64 (1)) h fun v37 h =>
 N10 [(slot l11 22), v12, v13, v14, v15, (slot l11 22), v5, v16, v16, v18, v20, v22, v24, v26, v28, v30, v32, v33, (slot l11 18), (slot l11 19), (slot l11 22), v37, v37] h)

noncomputable def rs_79_2 (b1 : Nat) (v5 : Value) (b3 : Nat) (a2 : Value) (h : Heap) (κ : Value → Heap → Prop) : Prop :=
 fieldAddrB False 2 (ptrTo b1) h fun v38 h =>
 load1 False v38 h fun v39 h =>
 indexAddrS False 5 v39 v5 h fun v40 h =>
 loadA False 5 v40 h fun v41 h =>
 CallW Tryz.prog 60 [v41] h fun v42 h =>
 CondW v42 (
 fillB False [] [] [(Value.int .i64 (0)), (Value.int .i64 (0)), (Value.slice none 0 0), (Value.int .i64 (0))] fun cs43 =>
 storeV False 4 (ptrTo b3) (Value.agg (Array.mk cs43)) h fun v44 h =>
 loadA False 4 (ptrTo b3) h fun v45 _ => κ (Value.tuple (Array.mk [v45, (Value.int .i64 (7))])) h) (
 rs_79_0 b1 v5 a2 b3 h κ)

noncomputable def rs_79_3 (b1 : Nat) (l11 : List Value) (v5 : Value) (a2 : Value) (b3 : Nat) (N10 : List Value → Heap → Prop) (h : Heap) (κ : Value → Heap → Prop) : Prop :=
 fieldAddrB False 2 (ptrTo b1) h fun v12 h =>
 load1 False v12 h fun v13 h =>
 lenSli False v13 h fun v14 h =>
 binB False Tryz.prog .lss 3 false false (slot l11 22) v14 h fun v15 h =>
 CondW v15 (
 rs_79_1 l11 v5 b1 a2 b3 N10 v12 v13 v14 v15 h κ) (
 rs_79_2 b1 v5 b3 a2 h κ)

/-- latchstring/latchstringref09.Hand -/
theorem rs_79 (a0 a1 a2 : Value) (h : Heap) (κ : Value → Heap → Prop) : BodyW Tryz.prog 79 [a0, a1, a2] h κ = (
 cellsK False (Value.cells a0).toList 56 false fun o0 => newBlock False o0 h fun b1 h =>
 cellsK False [(Value.int .i64 (0)), (Value.int .i64 (0)), (Value.slice none 0 0), (Value.int .i64 (0))] 56 false fun o2 => newBlock False o2 h fun b3 h =>
 loadA False 4 (ptrTo b1) h fun v4 h =>
 CallW Tryz.prog 87 [v4, a1] h fun v5 h =>
 binB False Tryz.prog .lss 3 true false v5 (Value.int .i64 (0)) h fun v6 h =>
 CondW v6 (
 fillB False [] [] [(Value.int .i64 (0)), (Value.int .i64 (0)), (Value.slice none 0 0), (Value.int .i64 (0))] fun cs7 =>
 storeV False 4 (ptrTo b3) (Value.agg (Array.mk cs7)) h fun v8 h =>
 loadA False 4 (ptrTo b3) h fun v9 _ => κ (Value.tuple (Array.mk [v9, (Value.int .i64 (5))])) h) (
 LoopR [undef, undef, undef, undef, undef, undef, undef, undef, undef, undef, undef, undef, undef, undef, undef, undef, undef, undef, undef, (Value.int .i64 (0)), undef, undef, (Value.int .i64 (0))] h fun l11 h N10 =>
 rs_79_3 b1 l11 v5 a2 b3 N10 h κ)) := by kernel_rfl

/-- (*latchstring/latchstringref10.Pool).Most -/
theorem rs_80 (a0 : Value) (h : Heap) (κ : Value → Heap → Prop) : BodyW Tryz.prog 80 [a0] h κ = (
 nilB False a0 h fun v0 h =>
 fieldAddrB False 0 v0 h fun v1 h =>
 load1 False v1 h fun v2 h =>
 lenSli False v2 h fun v3 h =>
 κ v3 h) := by kernel_rfl

noncomputable def rs_81_0 (a0 : Value) (l1 : List Value) (N0 : List Value → Heap → Prop) (v2 : Value) (v3 : Value) (v4 : Value) (v5 : Value) (v6 : Value) (h : Heap) (κ : Value → Heap → Prop) : Prop :=
 nilB False a0 h fun v7 h =>
 fieldAddrB False 0 v7 h fun v8 h =>
 load1 False v8 h fun v9 h =>
 indexAddrS False 1 v9 (slot l1 26) h fun v10 h =>
 load1 False v10 h fun v11 h =>
 unB False .not v11 h fun v12 h =>
 CondW v12 (
 nilB False a0 h fun v13 h =>
 fieldAddrB False 0 v13 h fun v14 h =>
 load1 False v14 h fun v15 h =>
 indexAddrS False 1 v15 (slot l1 26) h fun v16 h =>
 storeV False 1 v16 (Value.bool true) h fun v17 h =>
 κ (Value.tuple (Array.mk [(slot l1 26), (Value.int .i64 (0))])) h) (
 binB False Tryz.prog .add 3 true false (slot l1 26) (Value.int .i64 (1)) h fun v18 h =>
 N0 [(slot l1 26), a0, v2, v3, v4, v5, v6, a0, v7, v8, v9, (slot l1 26), v10, v11, v12, (slot l1 15), (slot l1 16), (slot l1 17), (slot l1 18), (slot l1 19), (slot l1 20), (slot l1 21), (slot l1 22), (slot l1 23), (slot l1 26), v18, v18] h)

noncomputable def rs_81_1 (a0 : Value) (l1 : List Value) (N0 : List Value → Heap → Prop) (h : Heap) (κ : Value → Heap → Prop) : Prop :=
 nilB False a0 h fun v2 h =>
 fieldAddrB False 0 v2 h fun v3 h =>
 load1 False v3 h fun v4 h =>
 lenSli False v4 h fun v5 h =>
 binB False Tryz.prog .lss 3 false false (slot l1 26) v5 h fun v6 h =>
 CondW v6 (
 rs_81_0 a0 l1 N0 v2 v3 v4 v5 v6 h κ) (
 κ (Value.tuple (Array.mk [(Value.int .i64 (0)), (Value.int .i64 (8))])) h)

/-- (*latchstring/latchstringref10.Pool).Take -/
theorem rs_81 (a0 : Value) (h : Heap) (κ : Value → Heap → Prop) : BodyW Tryz.prog 81 [a0] h κ = (
 LoopR [undef, undef, undef, undef, undef, undef, undef, undef, undef, undef, undef, undef, undef, undef, undef, undef, undef, undef, undef, undef, undef, undef, (Value.int .i64 (0)), (Value.int .i64 (0)), undef, undef, (Value.int .i64 (0))] h fun l1 h N0 =>
 rs_81_1 a0 l1 N0 h κ) := by kernel_rfl

noncomputable def rs_82_0 (b51 : Nat) (a1 : Value) (a2 : Value) (a3 : Value) (b3 : Nat) (h : Heap) (κ : Value → Heap → Prop) : Prop :=
 fieldAddrB False 2 (ptrTo b51) h fun v70 h =>
 load1 False v70 h fun v71 h =>
 fillB False [(0, 1), (1, 1), (2, 1), (3, 1)] [a1, a2, a3, a3] [(Value.int .i64 (0)), (Value.int .i64 (0)), (Value.int .i64 (0)), (Value.int .i64 (0)), (Value.int .i64 (0))] fun cs72 =>
 fillB False [(0, 5)] [(Value.agg (Array.mk cs72))] (repeatL [(Value.int .i64 (0)), (Value.int .i64 (0)), (Value.int .i64 (0)), (Value.int .i64 (0)), (Value.int .i64 (0))] 1) fun cs75 => cellsK False cs75 47 false fun o73 => newBlock False o73 h fun b74 h =>
 appendB False 47 5 [(Value.int .i64 (0)), (Value.int .i64 (0)), (Value.int .i64 (0)), (Value.int .i64 (0)), (Value.int .i64 (0))] false v71 (sliceTo 1 1 b74) h fun v76 h =>
 fieldAddrB False 2 (ptrTo b51) h fun v77 h =>
 storeV False 1 v77 v76 h fun v78 h =>
 loadA False 4 (ptrTo b51) h fun v79 h =>
 storeV False 4 (ptrTo b3) v79 h fun v80 h =>
 loadA False 4 (ptrTo b3) h fun v81 _ => κ (Value.tuple (Array.mk [v81, (Value.bool true), (Value.int .i64 (0))])) h

noncomputable def rs_82_1 (b51 : Nat) (a1 : Value) (a2 : Value) (a3 : Value) (b3 : Nat) (h : Heap) (κ : Value → Heap → Prop) : Prop :=
 fieldAddrB False 3 (ptrTo b51) h fun v82 h =>
 load1 False v82 h fun v83 h =>
 binB False Tryz.prog .add 3 true false v83 (Value.int .i64 (1)) h fun v84 h =>
 fieldAddrB False 3 (ptrTo b51) h fun v85 h =>
 storeV False 1 v85 v84 h fun v86 h =>
 fieldAddrB False 2 (ptrTo b51) h fun v87 h =>
 load1 False v87 h fun v88 h =>
 fieldAddrB False 3 (ptrTo b51) h fun v89 h =>
 load1 False v89 h fun v90 h =>
 fillB False [(0, 1), (1, 1), (3, 1), (4, 1)] [a1, a2, a3, v90] [(Value.int .i64 (0)), (Value.int .i64 (0)), (Value.int .i64 (0)), (Value.int .i64 (0)), (Value.int .i64 (0))] fun cs91 =>
 fillB False [(0, 5)] [(Value.agg (Array.mk cs91))] (repeatL [(Value.int .i64 (0)), (Value.int .i64 (0)), (Value.int .i64 (0)), (Value.int .i64 (0)), (Value.int .i64 (0))] 1) fun cs94 => cellsK False cs94 47 false fun o92 => newBlock False o92 h fun b93 h =>
 appendB False 47 5 [(Value.int .i64 (0)), (Value.int .i64 (0)), (Value.int .i64 (0)), (Value.int .i64 (0)), (Value.int .i64 (0))] false v88 (sliceTo 1 1 b93) h fun v95 h =>
 fieldAddrB False 2 (ptrTo b51) h fun v96 h =>
 storeV False 1 v96 v95 h fun v97 h =>
 loadA False 4 (ptrTo b51) h fun v98 h =>
 storeV False 4 (ptrTo b3) v98 h fun v99 h =>
 loadA False 4 (ptrTo b3) h fun v100 _ => κ (Value.tuple (Array.mk [v100, (Value.bool false), (Value.int .i64 (0))])) h

noncomputable def rs_82_2 (b1 : Nat) (l16 : List Value) (a1 : Value) (a2 : Value) (b3 : Nat) (N15 : List Value → Heap → Prop) (v17 : Value) (v18 : Value) (v19 : Value) (v20 : Value) (h : Heap) (κ : Value → Heap → Prop) : Prop :=
 fieldAddrB False 2 (ptrTo b1) h fun v21 h =>
 load1 False v21 h fun v22 h =>
 indexAddrS False 5 v22 (slot l16 28) h fun v23 h =>
 fieldAddrB False 0 v23 h fun v24 h =>
 load1 False v24 h fun v25 h =>
 binB False Tryz.prog .eql 3 false false v25 a1 h fun v26 h =>
 GuardW (wantV v26 false) (fun K27 =>
 fieldAddrB False 2 (ptrTo b1) h K27) h fun v28 h =>
 GuardW (wantV v26 false) (fun K29 =>
 load1 False v28 h K29) h fun v30 h =>
 GuardW (wantV v26 false) (fun K31 =>
 K31 (slot l16 28) h) h fun v32 h =>
 GuardW (wantV v26 false) (fun K33 =>
 indexAddrS False 5 v30 v32 h K33) h fun v34 h =>
 GuardW (wantV v26 false) (fun K35 =>
 fieldAddrB False 1 v34 h K35) h fun v36 h =>
 GuardW (wantV v26 false) (fun K37 =>
 load1 False v36 h K37) h fun v38 h =>
 GuardW (wantV v26 false) (fun K39 =>
 K39 a2 h) h fun v40 h =>
 GuardW (wantV v26 false) (fun K41 =>
 binB False Tryz.prog .eql 3 false false v38 v40 h K41) h fun v42 h =>
 pickB False v26 (Value.bool true) v42 h fun v43 h =>
 CondW v43 (
 fillB False [] [] [(Value.int .i64 (0)), (Value.int .i64 (0)), (Value.slice none 0 0), (Value.int .i64 (0))] fun cs44 =>
 storeV False 4 (ptrTo b3) (Value.agg (Array.mk cs44)) h fun v45 h =>
 loadA False 4 (ptrTo b3) h fun v46 _ => κ (Value.tuple (Array.mk [v46, (Value.bool false), (Value.int .i64 (4))])) h) (
 binB False Tryz.prog .add 3 true false (slot l16 28) (Value.int .i64 (1)) h fun v47 h =>
 N15 [(slot l16 28), v17, v18, v19, v20, v21, v22, (slot l16 28), v23, v24, v25, a1, v26, v26, v28, v30, v32, v34, v36, v38, v40, v42, v43, (slot l16 23), (slot l16 24), (slot l16 25), (slot l16 28), v47, v47] h)

noncomputable def rs_82_3 (b1 : Nat) (a3 : Value) (a1 : Value) (a2 : Value) (b3 : Nat) (h : Heap) (κ : Value → Heap → Prop) : Prop :=
 loadA False 4 (ptrTo b1) h fun v48 h =>
 CallW Tryz.prog 55 [v48] h fun v49 h =>
 cellsK False [(Value.int .i64 (0)), (Value.int .i64 (0)), (Value.slice none 0 0), (Value.int .i64 (0))] 56 false fun o50 => newBlock False o50 h fun b51 h =>
 storeV False 4 (ptrTo b51) v49 h fun v52 h =>
 loadA False 4 (ptrTo b1) h fun v53 h =>
 CallW Tryz.prog 56 [v53] h fun v54 h =>
 binB False Tryz.prog .lss 3 true false v54 (Value.int .i64 (0)) h fun v55 h =>
 GuardW (wantV v55 true) (fun K56 =>
 loadA False 4 (ptrTo b1) h K56) h fun v57 h =>
 GuardW (wantV v55 true) (fun K58 =>
 CallW Tryz.prog 57 [v57] h K58) h fun v59 h =>
 GuardW (wantV v55 true) (fun K60 =>
 binB False Tryz.prog .lss 3 true false v59 (Value.int .i64 (0)) h K60) h fun v61 h =>
 pickB False v55 v61 (Value.bool false) h fun v62 h =>
 GuardW (wantV v62 true) (fun K63 =>
 loadA False 4 (ptrTo b1) h K63) h fun v64 h =>
 GuardW (wantV v62 true) (fun K65 =>
 K65 a3 h) h fun v66 h =>
 GuardW (wantV v62 true) (fun K67 =>
 CallW Tryz.prog 58 [v64, v66, (Value.int .i64 (-1))] h K67) h fun v68 h =>
 pickB False v62 v68 (Value.bool false) h fun v69 h =>
 CondW v69 (
 rs_82_0 b51 a1 a2 a3 b3 h κ) (
 rs_82_1 b51 a1 a2 a3 b3 h κ)

noncomputable def rs_82_4 (b1 : Nat) (l16 : List Value) (a1 : Value) (a2 : Value) (b3 : Nat) (N15 : List Value → Heap → Prop) (a3 : Value) (h : Heap) (κ : Value → Heap → Prop) : Prop :=
 fieldAddrB False 2 (ptrTo b1) h fun v17 h =>
 load1 False v17 h fun v18 h =>
 lenSli False v18 h fun v19 h =>
 binB False Tryz.prog .lss 3 false false (slot l16 28) v19 h fun v20 h =>
 CondW v20 (
 rs_82_2 b1 l16 a1 a2 b3 N15 v17 v18 v19 v20 h κ) (
 rs_82_3 b1 a3 a1 a2 b3 h κ)

/-- latchstring/latchstringref09.Ask -/
theorem rs_82 (a0 a1 a2 a3 : Value) (h : Heap) (κ : Value → Heap → Prop) : BodyW Tryz.prog 82 [a0, a1, a2, a3] h κ = (
 cellsK False (Value.cells a0).toList 56 false fun o0 => newBlock False o0 h fun b1 h =>
 cellsK False [(Value.int .i64 (0)), (Value.int .i64 (0)), (Value.slice none 0 0), (Value.int .i64 (0))] 56 false fun o2 => newBlock False o2 h fun b3 h =>
 binB False Tryz.prog .lss 3 true false a1 (Value.int .i64 (0)) h fun v4 h =>
 GuardW (wantV v4 false) (fun K5 =>
 K5 a3 h) h fun v6 h =>
 GuardW (wantV v4 false) (fun K7 =>
 CallW Tryz.prog 104 [v6] h K7) h fun v8 h =>
 GuardW (wantV v4 false) (fun K9 =>
 unB False .not v8 h K9) h fun v10 h =>
 pickB False v4 (Value.bool true) v10 h fun v11 h =>
 CondW v11 (
 fillB False [] [] [(Value.int .i64 (0)), (Value.int .i64 (0)), (Value.slice none 0 0), (Value.int .i64 (0))] fun cs12 =>
 storeV False 4 (ptrTo b3) (Value.agg (Array.mk cs12)) h fun v13 h =>
 loadA False 4 (ptrTo b3) h fun v14 _ => κ (Value.tuple (Array.mk [v14, (Value.bool false), (Value.int .i64 (2))])) h) (
 LoopR [undef, undef, undef, undef, undef, undef, undef, undef, undef, undef, undef, undef, undef, undef, undef, undef, undef, undef, undef, undef, undef, undef, undef, undef, (Value.bool false), (Value.int .i64 (0)), undef, undef, (Value.int .i64 (0))] h fun l16 h N15 =>
 rs_82_4 b1 l16 a1 a2 b3 N15 a3 h κ)) := by kernel_rfl

/-- slices.SortedFunc[latchstring/api.Name] -/
theorem rs_83 (a0 a1 : Value) (h : Heap) (κ : Value → Heap → Prop) : BodyW Tryz.prog 83 [a0, a1] h κ = (
 CallW Tryz.prog 110 [a0] h fun v0 h =>
 CallW Tryz.prog 111 [v0, a1] h fun v1 h =>
 κ v0 h) := by kernel_rfl

/-- maps.Keys[map[latchstring/api.Name]*latchstring/api.Head,latchstring/api.Name,*latchstring/api.Head] -/
theorem rs_84 (a0 : Value) (h : Heap) (κ : Value → Heap → Prop) : BodyW Tryz.prog 84 [a0] h κ = (
 cellsK False (Value.cells a0).toList 86 false fun o0 => newBlock False o0 h fun b1 h =>
 κ (Value.func (.func 112) (Array.mk []) (Array.mk [(ptrTo b1)])) h) := by kernel_rfl

/-- latchstring/name.Compare -/
theorem rs_85 (a0 a1 : Value) (h : Heap) (κ : Value → Heap → Prop) : BodyW Tryz.prog 85 [a0, a1] h κ = (
 cellsK False (Value.cells a0).toList 38 false fun o0 => newBlock False o0 h fun b1 h =>
 cellsK False (Value.cells a1).toList 38 false fun o2 => newBlock False o2 h fun b3 h =>
 RdK (fieldAddrB none 0 (ptrTo b1) h fun v _ => some v) h fun v4 h =>
 RdK (load1 none v4 h fun v _ => some v) h fun v5 h =>
 RdK (fieldAddrB none 0 (ptrTo b3) h fun v _ => some v) h fun v6 h =>
 RdK (load1 none v6 h fun v _ => some v) h fun v7 h =>
 RdK (fieldAddrB none 1 (ptrTo b1) h fun v _ => some v) h fun v8 h =>
 RdK (load1 none v8 h fun v _ => some v) h fun v9 h =>
 RdK (fieldAddrB none 1 (ptrTo b3) h fun v _ => some v) h fun v10 h =>
 RdK (load1 none v10 h fun v _ => some v) h fun v11 h =>
 CallW Tryz.prog 114 [v5, v7] h fun v12 h =>
 SameK ((reV (fieldAddrB none 1 (ptrTo b1) h fun v _ => some v) v8) && ((reV (load1 none v8 h fun v _ => some v) v9) && ((reV (fieldAddrB none 1 (ptrTo b3) h fun v _ => some v) v10) && ((reV (load1 none v10 h fun v _ => some v) v11) && true)))) (CallW Tryz.prog 114 [v9, v11] h fun v13 h =>
 AlK (fillB none [(0, 1), (1, 1)] [v12, v13] (repeatL [(Value.int .i64 (0))] 2) fun cs => cellsK none cs 3 false fun o => some (o, sliceTo 2 2)) h fun v14 h =>
 CallW Tryz.prog 113 [v14] h fun v15 h =>
 κ v15 h)) := by kernel_rfl

/-- (latchstring/queue.view).place -/
theorem rs_86 (a0 a1 : Value) (h : Heap) (κ : Value → Heap → Prop) : BodyW Tryz.prog 86 [a0, a1] h κ = (
 cellsK False (Value.cells a0).toList 129 false fun o0 => newBlock False o0 h fun b1 h =>
 cellsK False (Value.cells a1).toList 3 false fun o2 => newBlock False o2 h fun b3 h =>
 fieldAddrB False 0 (ptrTo b1) h fun v4 h =>
 fieldAddrB False 2 v4 h fun v5 h =>
 load1 False v5 h fun v6 h =>
 CallW Tryz.prog 52 [v6, (Value.func (.func 115) (Array.mk []) (Array.mk [(ptrTo b3)]))] h fun v7 h =>
 κ v7 h) := by kernel_rfl

noncomputable def rs_87_0 (b1 : Nat) (l3 : List Value) (a1 : Value) (N2 : List Value → Heap → Prop) (v4 : Value) (v5 : Value) (v6 : Value) (v7 : Value) (h : Heap) (κ : Value → Heap → Prop) : Prop :=
 fieldAddrB False 2 (ptrTo b1) h fun v8 h =>
 load1 False v8 h fun v9 h =>
 indexAddrS False 5 v9 (slot l3 17) h fun v10 h =>
 fieldAddrB False 0 v10 h fun v11 h =>
 load1 False v11 h fun v12 h =>
 binB False Tryz.prog .eql 3 false false v12 a1 h fun v13 h =>
 CondW v13 (
 κ (slot l3 17) h) (
 binB False Tryz.prog .add 3 true false (slot l3 17) (Value.int .i64 (1)) h fun v14 h =>
 N2 [(slot l3 17), v4, v5, v6, v7, v8, v9, (slot l3 17), v10, v11, v12, a1, v13, (slot l3 13), (slot l3 14), (slot l3 17), v14, v14] h)

noncomputable def rs_87_1 (b1 : Nat) (l3 : List Value) (a1 : Value) (N2 : List Value → Heap → Prop) (h : Heap) (κ : Value → Heap → Prop) : Prop :=
 fieldAddrB False 2 (ptrTo b1) h fun v4 h =>
 load1 False v4 h fun v5 h =>
 lenSli False v5 h fun v6 h =>
 binB False Tryz.prog .lss 3 false false (slot l3 17) v6 h fun v7 h =>
 CondW v7 (
 rs_87_0 b1 l3 a1 N2 v4 v5 v6 v7 h κ) (
 κ (Value.int .i64 (-1)) h)

/-- latchstring/latchstringref09.at -/
theorem rs_87 (a0 a1 : Value) (h : Heap) (κ : Value → Heap → Prop) : BodyW Tryz.prog 87 [a0, a1] h κ = (
 cellsK False (Value.cells a0).toList 56 false fun o0 => newBlock False o0 h fun b1 h =>
 LoopR [undef, undef, undef, undef, undef, undef, undef, undef, undef, undef, undef, undef, undef, undef, (Value.int .i64 (0)), undef, undef, (Value.int .i64 (0))] h fun l3 h N2 =>
 rs_87_1 b1 l3 a1 N2 h κ) := by kernel_rfl

/-- latchstring/latchstringref02.Compare -/
theorem rs_88 (a0 a1 : Value) (h : Heap) (κ : Value → Heap → Prop) : BodyW Tryz.prog 88 [a0, a1] h κ = (
 cellsK False (Value.cells a0).toList 38 false fun o0 => newBlock False o0 h fun b1 h =>
 cellsK False (Value.cells a1).toList 38 false fun o2 => newBlock False o2 h fun b3 h =>
 fieldAddrB False 0 (ptrTo b1) h fun v4 h =>
 load1 False v4 h fun v5 h =>
 fieldAddrB False 0 (ptrTo b3) h fun v6 h =>
 load1 False v6 h fun v7 h =>
 binB False Tryz.prog .lss 3 false false v5 v7 h fun v8 h =>
 GuardW (wantV v8 false) (fun K9 =>
 fieldAddrB False 0 (ptrTo b1) h K9) h fun v10 h =>
 GuardW (wantV v8 false) (fun K11 =>
 load1 False v10 h K11) h fun v12 h =>
 GuardW (wantV v8 false) (fun K13 =>
 fieldAddrB False 0 (ptrTo b3) h K13) h fun v14 h =>
 GuardW (wantV v8 false) (fun K15 =>
 load1 False v14 h K15) h fun v16 h =>
 GuardW (wantV v8 false) (fun K17 =>
 binB False Tryz.prog .eql 3 false false v12 v16 h K17) h fun v18 h =>
 GuardW (wantV v8 false) (fun K19 =>
 K19 v18 h) h fun v20 h =>
 GuardW (wantV v20 true) (fun K21 =>
 fieldAddrB False 1 (ptrTo b1) h K21) h fun v22 h =>
 GuardW (wantV v20 true) (fun K23 =>
 load1 False v22 h K23) h fun v24 h =>
 GuardW (wantV v20 true) (fun K25 =>
 fieldAddrB False 1 (ptrTo b3) h K25) h fun v26 h =>
 GuardW (wantV v20 true) (fun K27 =>
 load1 False v26 h K27) h fun v28 h =>
 GuardW (wantV v20 true) (fun K29 =>
 binB False Tryz.prog .lss 3 false false v24 v28 h K29) h fun v30 h =>
 GuardW (wantV v8 false) (fun K31 =>
 pickB False v20 v30 (Value.bool false) h K31) h fun v32 h =>
 pickB False v8 (Value.bool true) v32 h fun v33 h =>
 CondW v33 (
 κ (Value.int .i64 (-1)) h) (
 loadA False 2 (ptrTo b1) h fun v34 h =>
 loadA False 2 (ptrTo b3) h fun v35 h =>
 binB False Tryz.prog .eql 38 false false v34 v35 h fun v36 h =>
 CondW v36 (
 κ (Value.int .i64 (0)) h) (
 κ (Value.int .i64 (1)) h))) := by kernel_rfl

/-- container/heap.Pop -/
theorem rs_91 (a0 : Value) (h : Heap) (κ : Value → Heap → Prop) : BodyW Tryz.prog 91 [a0] h κ = (
 CallI Tryz.prog "Len" a0 [] h fun v0 h =>
 binB False Tryz.prog .sub 3 true false v0 (Value.int .i64 (1)) h fun v1 h =>
 CallI Tryz.prog "Swap" a0 [(Value.int .i64 (0)), v1] h fun v2 h =>
 CallW Tryz.prog 117 [a0, (Value.int .i64 (0)), v1] h fun v3 h =>
 CallI Tryz.prog "Pop" a0 [] h fun v4 h =>
 κ v4 h) := by kernel_rfl

/-- latchstring/queue.asked -/
theorem rs_92 (a0 : Value) (h : Heap) (κ : Value → Heap → Prop) : BodyW Tryz.prog 92 [a0] h κ = (
 binB False Tryz.prog .neq 39 true false a0 (Value.int .i64 (0)) h fun v0 h =>
 GuardW (wantV v0 true) (fun K1 =>
 K1 a0 h) h fun v2 h =>
 GuardW (wantV v0 true) (fun K3 =>
 CallW Tryz.prog 63 [v2] h K3) h fun v4 h =>
 pickB False v0 v4 (Value.bool false) h fun v5 h =>
 κ v5 h) := by kernel_rfl

/-- latchstring/queue.Ask$1 -/
theorem rs_94 (a0 a1 a2 : Value) (h : Heap) (κ : Value → Heap → Prop) : BodyW Tryz.prog 94 [a0, a1, a2] h κ = (
 cellsK False (Value.cells a0).toList 47 false fun o0 => newBlock False o0 h fun b1 h =>
 fieldAddrB False 0 (ptrTo b1) h fun v2 h =>
 load1 False v2 h fun v3 h =>
 load1 False a1 h fun v4 h =>
 binB False Tryz.prog .eql 3 false false v3 v4 h fun v5 h =>
 GuardW (wantV v5 false) (fun K6 =>
 fieldAddrB False 1 (ptrTo b1) h K6) h fun v7 h =>
 GuardW (wantV v5 false) (fun K8 =>
 load1 False v7 h K8) h fun v9 h =>
 GuardW (wantV v5 false) (fun K10 =>
 load1 False a2 h K10) h fun v11 h =>
 GuardW (wantV v5 false) (fun K12 =>
 binB False Tryz.prog .eql 3 false false v9 v11 h K12) h fun v13 h =>
 pickB False v5 (Value.bool true) v13 h fun v14 h =>
 κ v14 h) := by kernel_rfl

/-- latchstring/queue.own -/
theorem rs_95 (a0 : Value) (h : Heap) (κ : Value → Heap → Prop) : BodyW Tryz.prog 95 [a0] h κ = (
 cellsK False (Value.cells a0).toList 56 false fun o0 => newBlock False o0 h fun b1 h =>
 cellsK False [(Value.int .i64 (0)), (Value.int .i64 (0)), (Value.slice none 0 0), (Value.int .i64 (0))] 129 false fun o2 => newBlock False o2 h fun b3 h =>
 fieldAddrB False 2 (ptrTo b1) h fun v4 h =>
 load1 False v4 h fun v5 h =>
 CallW Tryz.prog 45 [v5] h fun v6 h =>
 fieldAddrB False 2 (ptrTo b1) h fun v7 h =>
 storeV False 1 v7 v6 h fun v8 h =>
 loadA False 4 (ptrTo b1) h fun v9 h =>
 fillB False [(0, 4)] [v9] [(Value.int .i64 (0)), (Value.int .i64 (0)), (Value.slice none 0 0), (Value.int .i64 (0))] fun cs10 =>
 storeV False 4 (ptrTo b3) (Value.agg (Array.mk cs10)) h fun v11 h =>
 loadA False 4 (ptrTo b3) h fun v12 _ => κ v12 h) := by kernel_rfl

noncomputable def rs_96_0 (v4 : Value) (l7 : List Value) (b1 : Nat) (N9 : List Value → Heap → Prop) (h : Heap) : Prop :=
 indexAddrS False 5 v4 (slot l7 27) h fun v11 h =>
 loadA False 5 v11 h fun v12 h =>
 cellsK False [(Value.int .i64 (0)), (Value.int .i64 (0)), (Value.int .i64 (0)), (Value.int .i64 (0)), (Value.int .i64 (0))] 47 false fun o13 => newBlock False o13 h fun b14 h =>
 storeV False 5 (ptrTo b14) v12 h fun v15 h =>
 RdK (loadA none 5 (ptrTo b14) h fun v _ => some v) h fun v16 h =>
 CallW Tryz.prog 103 [v16] h fun v17 h =>
 RdK (some v17) h fun v18 h =>
 GuardW (wantV v18 true) (fun K19 =>
 RdK (some (slot l7 25)) h K19) h fun v20 h =>
 GuardW (wantV v18 true) (fun K21 =>
 RdK (binB none Tryz.prog .lss 3 true false v20 (Value.int .i64 (0)) h fun v _ => some v) h K21) h fun v22 h =>
 GuardW (wantV v18 true) (fun K23 =>
 RdK (some v22) h K23) h fun v24 h =>
 GuardW (wantV v24 false) (fun K25 =>
 RdK (fieldAddrB none 4 (ptrTo b14) h fun v _ => some v) h K25) h fun v26 h =>
 GuardW (wantV v24 false) (fun K27 =>
 RdK (load1 none v26 h fun v _ => some v) h K27) h fun v28 h =>
 GuardW (wantV v24 false) (fun K29 =>
 RdK (fieldAddrB none 0 (ptrTo b1) h fun v _ => some v) h K29) h fun v30 h =>
 GuardW (wantV v24 false) (fun K31 =>
 RdK (fieldAddrB none 2 v30 h fun v _ => some v) h K31) h fun v32 h =>
 GuardW (wantV v24 false) (fun K33 =>
 RdK (load1 none v32 h fun v _ => some v) h K33) h fun v34 h =>
 GuardW (wantV v24 false) (fun K35 =>
 RdK (some (slot l7 25)) h K35) h fun v36 h =>
 GuardW (wantV v24 false) (fun K37 =>
 RdK (indexAddrS none 5 v34 v36 h fun v _ => some v) h K37) h fun v38 h =>
 GuardW (wantV v24 false) (fun K39 =>
 RdK (fieldAddrB none 4 v38 h fun v _ => some v) h K39) h fun v40 h =>
 GuardW (wantV v24 false) (fun K41 =>
 RdK (load1 none v40 h fun v _ => some v) h K41) h fun v42 h =>
 GuardW (wantV v24 false) (fun K43 =>
 RdK (binB none Tryz.prog .lss 3 false false v28 v42 h fun v _ => some v) h K43) h fun v44 h =>
 GuardW (wantV v18 true) (fun K45 =>
 RdK (pickB none v24 (Value.bool true) v44 h fun v _ => some v) h K45) h fun v46 h =>
 RdK (pickB none v18 v46 (Value.bool false) h fun v _ => some v) h fun v47 h =>
 CondW v47 (
 N9 [(slot l7 27), v11, v12, (ptrTo b14), (slot l7 27), v16, v17, v18, v20, v22, v24, v26, v28, v30, v32, v34, v36, v38, v40, v42, v44, v46, v47, (slot l7 27), (slot l7 27)] h) (
 N9 [(slot l7 27), v11, v12, (ptrTo b14), (slot l7 27), v16, v17, v18, v20, v22, v24, v26, v28, v30, v32, v34, v36, v38, v40, v42, v44, v46, v47, (slot l7 24), (slot l7 25)] h)

noncomputable def rs_96_1 (l7 : List Value) (b1 : Nat) (N49 : List Value → Heap → Prop) (h : Heap) : Prop :=
 binB False Tryz.prog .lss 3 true false (slot l7 25) (Value.int .i64 (0)) h fun v51 h =>
 CondW v51 (
 fieldAddrB False 0 (ptrTo b1) h fun v52 h =>
 fieldAddrB False 2 v52 h fun v53 h =>
 load1 False v53 h fun v54 h =>
 CallW Tryz.prog 52 [v54, (Value.func (.func 118) (Array.mk []) (Array.mk []))] h fun v55 h =>
 N49 [(slot l7 25), v51, v52, v53, v54, v55, v55] h) (
 N49 [(slot l7 25), v51, undef, undef, undef, undef, (slot l7 25)] h)

noncomputable def rs_96_2 (l7 : List Value) (v5 : Value) (v4 : Value) (b1 : Nat) (N6 : List Value → Heap → Prop) (h : Heap) (κ : Value → Heap → Prop) : Prop :=
 binB False Tryz.prog .lss 3 false false (slot l7 27) v5 h fun v8 h =>
 CondW v8 (
 JoinR (fun N9 =>
 rs_96_0 v4 l7 b1 N9 h) fun l10 h =>
 binB False Tryz.prog .add 3 true false (slot l7 27) (Value.int .i64 (1)) h fun v48 h =>
 N6 [v8, (slot l10 0), (slot l10 1), (slot l10 2), (slot l10 3), (slot l10 4), (slot l10 5), (slot l10 6), (slot l10 7), (slot l10 8), (slot l10 9), (slot l10 10), (slot l10 11), (slot l10 12), (slot l10 13), (slot l10 14), (slot l10 15), (slot l10 16), (slot l10 17), (slot l10 18), (slot l10 19), (slot l10 20), (slot l10 21), (slot l10 22), (slot l10 23), (slot l10 24), v48, v48] h) (
 JoinR (fun N49 =>
 rs_96_1 l7 b1 N49 h) fun l50 h =>
 κ (slot l50 6) h)

/-- (latchstring/queue.view).first -/
theorem rs_96 (a0 : Value) (h : Heap) (κ : Value → Heap → Prop) : BodyW Tryz.prog 96 [a0] h κ = (
 cellsK False (Value.cells a0).toList 129 false fun o0 => newBlock False o0 h fun b1 h =>
 fieldAddrB False 0 (ptrTo b1) h fun v2 h =>
 fieldAddrB False 2 v2 h fun v3 h =>
 load1 False v3 h fun v4 h =>
 lenSli False v4 h fun v5 h =>
 LoopR [undef, undef, undef, undef, undef, undef, undef, undef, undef, undef, undef, undef, undef, undef, undef, undef, undef, undef, undef, undef, undef, undef, undef, undef, undef, (Value.int .i64 (-1)), undef, (Value.int .i64 (0))] h fun l7 h N6 =>
 rs_96_2 l7 v5 v4 b1 N6 h κ) := by kernel_rfl

/-- (latchstring/queue.view).fits -/
theorem rs_97 (a0 a1 : Value) (h : Heap) (κ : Value → Heap → Prop) : BodyW Tryz.prog 97 [a0, a1] h κ = (
 cellsK False (Value.cells a0).toList 129 false fun o0 => newBlock False o0 h fun b1 h =>
 cellsK False (Value.cells a1).toList 47 false fun o2 => newBlock False o2 h fun b3 h =>
 fieldAddrB False 0 (ptrTo b1) h fun v4 h =>
 fieldAddrB False 2 v4 h fun v5 h =>
 load1 False v5 h fun v6 h =>
 CallW Tryz.prog 93 [v6, (Value.func (.func 119) (Array.mk []) (Array.mk [(ptrTo b3)]))] h fun v7 h =>
 unB False .not v7 h fun v8 h =>
 κ v8 h) := by kernel_rfl

noncomputable def rs_98_0 (b7 : Nat) (v13 : Value) (l11 : List Value) (N10 : List Value → Heap → Prop) (v12 : Value) (v14 : Value) (v16 : Value) (v18 : Value) (v20 : Value) (v22 : Value) (v24 : Value) (v26 : Value) (v28 : Value) (v30 : Value) (v32 : Value) (v33 : Value) (h : Heap) : Prop :=
 RdK (fieldAddrB none 0 (ptrTo b7) h fun v _ => some v) h fun v38 h =>
 RdK (fieldAddrB none 2 v38 h fun v _ => some v) h fun v39 h =>
 RdK (load1 none v39 h fun v _ => some v) h fun v40 h =>
 RdK (some v13) h fun v41 h =>
 RdK (fieldAddrB none 0 (ptrTo b7) h fun v _ => some v) h fun v42 h =>
 RdK (fieldAddrB none 2 v42 h fun v _ => some v) h fun v43 h =>
 RdK (load1 none v43 h fun v _ => some v) h fun v44 h =>
 RdK (some v13) h fun v45 h =>
 RdK (fieldAddrB none 0 (ptrTo b7) h fun v _ => some v) h fun v46 h =>
 RdK (fieldAddrB none 2 v46 h fun v _ => some v) h fun v47 h =>
 RdK (load1 none v47 h fun v _ => some v) h fun v48 h =>
 RdK (some v13) h fun v49 h =>
 RdK (indexAddrS none 5 v48 v49 h fun v _ => some v) h fun v50 h =>
 RdK (fieldAddrB none 3 v50 h fun v _ => some v) h fun v51 h =>
 RdK (load1 none v51 h fun v _ => some v) h fun v52 h =>
 RdK (indexAddrS none 5 v40 v41 h fun v _ => some v) h fun v53 h =>
 RdK (fieldAddrB none 2 v53 h fun v _ => some v) h fun v54 h =>
 storeV False 1 v54 v52 h fun v55 h =>
 SameK ((reV (fieldAddrB none 0 (ptrTo b7) h fun v _ => some v) v42) && ((reV (fieldAddrB none 2 v42 h fun v _ => some v) v43) && ((reV (load1 none v43 h fun v _ => some v) v44) && ((reV (some v13) v45) && true)))) (RdK (indexAddrS none 5 v44 v45 h fun v _ => some v) h fun v56 h =>
 RdK (fieldAddrB none 4 v56 h fun v _ => some v) h fun v57 h =>
 storeV False 1 v57 (Value.int .i64 (0)) h fun v58 h =>
 fieldAddrB False 0 (ptrTo b7) h fun v59 h =>
 fieldAddrB False 2 v59 h fun v60 h =>
 load1 False v60 h fun v61 h =>
 indexAddrS False 5 v61 v13 h fun v62 h =>
 fieldAddrB False 0 v62 h fun v63 h =>
 load1 False v63 h fun v64 h =>
 fillB False [(0, 1)] [v64] (repeatL [(Value.int .i64 (0))] 1) fun cs67 => cellsK False cs67 3 false fun o65 => newBlock False o65 h fun b66 h =>
 appendB False 3 1 [(Value.int .i64 (0))] false (slot l11 49) (sliceTo 1 1 b66) h fun v68 h =>
 N10 [v12, v13, v13, v13, v14, v14, v16, v18, v20, v22, v24, v26, v28, v30, v32, v33, (slot l11 16), (slot l11 17), (slot l11 18), (slot l11 19), v38, v39, v40, v41, v42, v43, v44, v45, v46, v47, v48, v49, v50, v51, v52, v53, v54, v56, v57, (slot l11 49), v59, v60, v61, v13, v62, v63, v64, (sliceTo 1 1 b66), v68, v68] h)

noncomputable def rs_98_1 (b7 : Nat) (v9 : Value) (b3 : Nat) (l11 : List Value) (N10 : List Value → Heap → Prop) (h : Heap) (κ : Value → Heap → Prop) : Prop :=
 loadA False 4 (ptrTo b7) h fun v12 h =>
 CallW Tryz.prog 96 [v12] h fun v13 h =>
 binB False Tryz.prog .lss 3 true false v13 (Value.int .i64 (0)) h fun v14 h =>
 GuardW (wantV v14 false) (fun K15 =>
 K15 (Value.func (.func 97) (Array.mk [v9]) (Array.mk [])) h) h fun v16 h =>
 GuardW (wantV v14 false) (fun K17 =>
 fieldAddrB False 0 (ptrTo b7) h K17) h fun v18 h =>
 GuardW (wantV v14 false) (fun K19 =>
 fieldAddrB False 2 v18 h K19) h fun v20 h =>
 GuardW (wantV v14 false) (fun K21 =>
 load1 False v20 h K21) h fun v22 h =>
 GuardW (wantV v14 false) (fun K23 =>
 K23 v13 h) h fun v24 h =>
 GuardW (wantV v14 false) (fun K25 =>
 indexAddrS False 5 v22 v24 h K25) h fun v26 h =>
 GuardW (wantV v14 false) (fun K27 =>
 loadA False 5 v26 h K27) h fun v28 h =>
 GuardW (wantV v14 false) (fun K29 =>
 CallV Tryz.prog v16 [v28] h K29) h fun v30 h =>
 GuardW (wantV v14 false) (fun K31 =>
 unB False .not v30 h K31) h fun v32 h =>
 pickB False v14 (Value.bool true) v32 h fun v33 h =>
 CondW v33 (
 fieldAddrB False 0 (ptrTo b7) h fun v34 h =>
 loadA False 4 v34 h fun v35 h =>
 storeV False 4 (ptrTo b3) v35 h fun v36 h =>
 loadA False 4 (ptrTo b3) h fun v37 _ => κ (Value.tuple (Array.mk [v37, (slot l11 49)])) h) (
 rs_98_0 b7 v13 l11 N10 v12 v14 v16 v18 v20 v22 v24 v26 v28 v30 v32 v33 h)

/-- latchstring/queue.Scan -/
theorem rs_98 (a0 : Value) (h : Heap) (κ : Value → Heap → Prop) : BodyW Tryz.prog 98 [a0] h κ = (
 cellsK False (Value.cells a0).toList 56 false fun o0 => newBlock False o0 h fun b1 h =>
 cellsK False [(Value.int .i64 (0)), (Value.int .i64 (0)), (Value.slice none 0 0), (Value.int .i64 (0))] 56 false fun o2 => newBlock False o2 h fun b3 h =>
 loadA False 4 (ptrTo b1) h fun v4 h =>
 CallW Tryz.prog 95 [v4] h fun v5 h =>
 cellsK False [(Value.int .i64 (0)), (Value.int .i64 (0)), (Value.slice none 0 0), (Value.int .i64 (0))] 129 false fun o6 => newBlock False o6 h fun b7 h =>
 storeV False 4 (ptrTo b7) v5 h fun v8 h =>
 loadA False 4 (ptrTo b7) h fun v9 h =>
 LoopR [undef, undef, undef, undef, undef, undef, undef, undef, undef, undef, undef, undef, undef, undef, undef, undef, undef, undef, undef, (Value.slice none 0 0), undef, undef, undef, undef, undef, undef, undef, undef, undef, undef, undef, undef, undef, undef, undef, undef, undef, undef, undef, undef, undef, undef, undef, undef, undef, undef, undef, undef, undef, (Value.slice none 0 0)] h fun l11 h N10 =>
 rs_98_1 b7 v9 b3 l11 N10 h κ) := by kernel_rfl

/-- (latchstring/queue.view).without -/
theorem rs_99 (a0 a1 : Value) (h : Heap) (κ : Value → Heap → Prop) : BodyW Tryz.prog 99 [a0, a1] h κ = (
 cellsK False (Value.cells a0).toList 129 false fun o0 => newBlock False o0 h fun b1 h =>
 cellsK False (Value.cells a1).toList 3 false fun o2 => newBlock False o2 h fun b3 h =>
 cellsK False [(Value.int .i64 (0)), (Value.int .i64 (0)), (Value.slice none 0 0), (Value.int .i64 (0))] 56 false fun o4 => newBlock False o4 h fun b5 h =>
 fieldAddrB False 0 (ptrTo b1) h fun v6 h =>
 fieldAddrB False 2 v6 h fun v7 h =>
 load1 False v7 h fun v8 h =>
 CallW Tryz.prog 121 [v8, (Value.func (.func 122) (Array.mk []) (Array.mk [(ptrTo b3)]))] h fun v9 h =>
 fieldAddrB False 0 (ptrTo b1) h fun v10 h =>
 fieldAddrB False 2 v10 h fun v11 h =>
 storeV False 1 v11 v9 h fun v12 h =>
 fieldAddrB False 0 (ptrTo b1) h fun v13 h =>
 loadA False 4 v13 h fun v14 h =>
 storeV False 4 (ptrTo b5) v14 h fun v15 h =>
 loadA False 4 (ptrTo b5) h fun v16 _ => κ v16 h) := by kernel_rfl

noncomputable def rs_100_0 (l1 : List Value) (a0 : Value) (N0 : List Value → Heap → Prop) (h : Heap) (κ : Value → Heap → Prop) : Prop :=
 binB False Tryz.prog .sub 3 true false (slot l1 19) (Value.int .i64 (1)) h fun v2 h =>
 binB False Tryz.prog .quo 3 true false v2 (Value.int .i64 (2)) h fun v3 h =>
 binB False Tryz.prog .eql 3 false false v3 (slot l1 19) h fun v4 h =>
 GuardW (wantV v4 false) (fun K5 =>
 K5 a0 h) h fun v6 h =>
 GuardW (wantV v4 false) (fun K7 =>
 K7 (slot l1 19) h) h fun v8 h =>
 GuardW (wantV v4 false) (fun K9 =>
 K9 v3 h) h fun v10 h =>
 GuardW (wantV v4 false) (fun K11 =>
 CallI Tryz.prog "Less" v6 [v8, v10] h K11) h fun v12 h =>
 GuardW (wantV v4 false) (fun K13 =>
 unB False .not v12 h K13) h fun v14 h =>
 pickB False v4 (Value.bool true) v14 h fun v15 h =>
 CondW v15 (
 κ (Value.tuple (Array.mk [])) h) (
 CallI Tryz.prog "Swap" a0 [v3, (slot l1 19)] h fun v16 h =>
 N0 [(slot l1 19), v2, v3, v3, v3, (slot l1 19), v4, v4, v6, v8, v10, v12, v14, v15, a0, v3, (slot l1 19), v16, v3, v3] h)

/-- container/heap.up -/
theorem rs_100 (a0 a1 : Value) (h : Heap) (κ : Value → Heap → Prop) : BodyW Tryz.prog 100 [a0, a1] h κ = (
 LoopR [undef, undef, undef, undef, undef, undef, undef, undef, undef, undef, undef, undef, undef, undef, undef, undef, undef, undef, undef, a1] h fun l1 h N0 =>
 rs_100_0 l1 a0 N0 h κ) := by kernel_rfl

/-- latchstring/queue.waits -/
theorem rs_101 (a0 : Value) (h : Heap) (κ : Value → Heap → Prop) : BodyW Tryz.prog 101 [a0] h κ = (
 cellsK False (Value.cells a0).toList 47 false fun o0 => newBlock False o0 h fun b1 h =>
 fieldAddrB False 4 (ptrTo b1) h fun v2 h =>
 load1 False v2 h fun v3 h =>
 binB False Tryz.prog .gtr 3 true false v3 (Value.int .i64 (0)) h fun v4 h =>
 κ v4 h) := by kernel_rfl

/-- latchstring/queue.upgrades -/
theorem rs_103 (a0 : Value) (h : Heap) (κ : Value → Heap → Prop) : BodyW Tryz.prog 103 [a0] h κ = (
 cellsK False (Value.cells a0).toList 47 false fun o0 => newBlock False o0 h fun b1 h =>
 loadA False 5 (ptrTo b1) h fun v2 h =>
 CallW Tryz.prog 108 [v2] h fun v3 h =>
 GuardW (wantV v3 true) (fun K4 =>
 loadA False 5 (ptrTo b1) h K4) h fun v5 h =>
 GuardW (wantV v3 true) (fun K6 =>
 CallW Tryz.prog 101 [v5] h K6) h fun v7 h =>
 pickB False v3 v7 (Value.bool false) h fun v8 h =>
 κ v8 h) := by kernel_rfl

/-- latchstring/latchstringref09.asked -/
theorem rs_104 (a0 : Value) (h : Heap) (κ : Value → Heap → Prop) : BodyW Tryz.prog 104 [a0] h κ = (
 binB False Tryz.prog .neq 39 true false a0 (Value.int .i64 (0)) h fun v0 h =>
 GuardW (wantV v0 true) (fun K1 =>
 K1 a0 h) h fun v2 h =>
 GuardW (wantV v0 true) (fun K3 =>
 CallW Tryz.prog 28 [v2] h K3) h fun v4 h =>
 pickB False v0 v4 (Value.bool false) h fun v5 h =>
 κ v5 h) := by kernel_rfl

/-- latchstring/latchstringref09.without -/
theorem rs_106 (a0 a1 : Value) (h : Heap) (κ : Value → Heap → Prop) : BodyW Tryz.prog 106 [a0, a1] h κ = (
 cellsK False (Value.cells a0).toList 56 false fun o0 => newBlock False o0 h fun b1 h =>
 cellsK False [(Value.int .i64 (0)), (Value.int .i64 (0)), (Value.slice none 0 0), (Value.int .i64 (0))] 56 false fun o2 => newBlock False o2 h fun b3 h =>
 loadA False 4 (ptrTo b1) h fun v4 h =>
 CallW Tryz.prog 55 [v4] h fun v5 h =>
 cellsK False [(Value.int .i64 (0)), (Value.int .i64 (0)), (Value.slice none 0 0), (Value.int .i64 (0))] 56 false fun o6 => newBlock False o6 h fun b7 h =>
 storeV False 4 (ptrTo b7) v5 h fun v8 h =>
 RdK (fieldAddrB none 2 (ptrTo b7) h fun v _ => some v) h fun v9 h =>
 RdK (load1 none v9 h fun v _ => some v) h fun v10 h =>
 RdK (some a1) h fun v11 h =>
 RdK (sliceB none 47 5 v10 none (some v11) none h fun v _ => some v) h fun v12 h =>
 RdK (fieldAddrB none 2 (ptrTo b1) h fun v _ => some v) h fun v13 h =>
 RdK (load1 none v13 h fun v _ => some v) h fun v14 h =>
 RdK (some a1) h fun v15 h =>
 RdK (binB none Tryz.prog .add 3 true false v15 (Value.int .i64 (1)) h fun v _ => some v) h fun v16 h =>
 RdK (sliceB none 47 5 v14 (some v16) none none h fun v _ => some v) h fun v17 h =>
 appendB False 47 5 [(Value.int .i64 (0)), (Value.int .i64 (0)), (Value.int .i64 (0)), (Value.int .i64 (0)), (Value.int .i64 (0))] false v12 v17 h fun v18 h =>
 RdK (fieldAddrB none 2 (ptrTo b7) h fun v _ => some v) h fun v19 h =>
 storeV False 1 v19 v18 h fun v20 h =>
 loadA False 4 (ptrTo b7) h fun v21 h =>
 storeV False 4 (ptrTo b3) v21 h fun v22 h =>
 loadA False 4 (ptrTo b3) h fun v23 _ => κ v23 h) := by kernel_rfl

/-- (*latchstring/latchstringref10.Pool).Has -/
theorem rs_107 (a0 a1 : Value) (h : Heap) (κ : Value → Heap → Prop) : BodyW Tryz.prog 107 [a0, a1] h κ = (
 binB False Tryz.prog .geq 3 true false a1 (Value.int .i64 (0)) h fun v0 h =>
 GuardW (wantV v0 true) (fun K1 =>
 K1 a1 h) h fun v2 h =>
 GuardW (wantV v0 true) (fun K3 =>
 K3 a0 h) h fun v4 h =>
 GuardW (wantV v0 true) (fun K5 =>
 nilB False v4 h K5) h fun v6 h =>
 GuardW (wantV v0 true) (fun K7 =>
 fieldAddrB False 0 v6 h K7) h fun v8 h =>
 GuardW (wantV v0 true) (fun K9 =>
 load1 False v8 h K9) h fun v10 h =>
 GuardW (wantV v0 true) (fun K11 =>
 lenSli False v10 h K11) h fun v12 h =>
 GuardW (wantV v0 true) (fun K13 =>
 binB False Tryz.prog .lss 3 false false v2 v12 h K13) h fun v14 h =>
 pickB False v0 v14 (Value.bool false) h fun v15 h =>
 GuardW (wantV v15 true) (fun K16 =>
 K16 a0 h) h fun v17 h =>
 GuardW (wantV v15 true) (fun K18 =>
 nilB False v17 h K18) h fun v19 h =>
 GuardW (wantV v15 true) (fun K20 =>
 fieldAddrB False 0 v19 h K20) h fun v21 h =>
 GuardW (wantV v15 true) (fun K22 =>
 load1 False v21 h K22) h fun v23 h =>
 GuardW (wantV v15 true) (fun K24 =>
 K24 a1 h) h fun v25 h =>
 GuardW (wantV v15 true) (fun K26 =>
 indexAddrS False 1 v23 v25 h K26) h fun v27 h =>
 GuardW (wantV v15 true) (fun K28 =>
 load1 False v27 h K28) h fun v29 h =>
 pickB False v15 v29 (Value.bool false) h fun v30 h =>
 κ v30 h) := by kernel_rfl

/-- latchstring/queue.holds -/
theorem rs_108 (a0 : Value) (h : Heap) (κ : Value → Heap → Prop) : BodyW Tryz.prog 108 [a0] h κ = (
 cellsK False (Value.cells a0).toList 47 false fun o0 => newBlock False o0 h fun b1 h =>
 fieldAddrB False 2 (ptrTo b1) h fun v2 h =>
 load1 False v2 h fun v3 h =>
 binB False Tryz.prog .neq 39 true false v3 (Value.int .i64 (0)) h fun v4 h =>
 κ v4 h) := by kernel_rfl

/-- latchstring/queue.Hand$1 -/
theorem rs_109 (a0 a1 a2 : Value) (h : Heap) (κ : Value → Heap → Prop) : BodyW Tryz.prog 109 [a0, a1, a2] h κ = (
 cellsK False (Value.cells a0).toList 47 false fun o0 => newBlock False o0 h fun b1 h =>
 fieldAddrB False 0 (ptrTo b1) h fun v2 h =>
 load1 False v2 h fun v3 h =>
 load1 False a1 h fun v4 h =>
 binB False Tryz.prog .neq 3 false false v3 v4 h fun v5 h =>
 GuardW (wantV v5 true) (fun K6 =>
 fieldAddrB False 1 (ptrTo b1) h K6) h fun v7 h =>
 GuardW (wantV v5 true) (fun K8 =>
 load1 False v7 h K8) h fun v9 h =>
 GuardW (wantV v5 true) (fun K10 =>
 load1 False a2 h K10) h fun v11 h =>
 GuardW (wantV v5 true) (fun K12 =>
 binB False Tryz.prog .eql 3 false false v9 v11 h K12) h fun v13 h =>
 pickB False v5 v13 (Value.bool false) h fun v14 h =>
 κ v14 h) := by kernel_rfl

/-- slices.Collect[latchstring/api.Name] -/
theorem rs_110 (a0 : Value) (h : Heap) (κ : Value → Heap → Prop) : BodyW Tryz.prog 110 [a0] h κ = (
 CallW Tryz.prog 124 [(Value.slice none 0 0), a0] h fun v0 h =>
 κ v0 h) := by kernel_rfl

/-- slices.SortFunc[[]latchstring/api.Name,latchstring/api.Name] -/
theorem rs_111 (a0 a1 : Value) (h : Heap) (κ : Value → Heap → Prop) : BodyW Tryz.prog 111 [a0, a1] h κ = (
 lenSli False a0 h fun v0 h =>
 convI False .u64 v0 h fun v1 h =>
 CallW Tryz.prog 126 [v1] h fun v2 h =>
 CallW Tryz.prog 125 [a0, (Value.int .i64 (0)), v0, v2, a1] h fun v3 h =>
 κ (Value.tuple (Array.mk [])) h) := by kernel_rfl

noncomputable def rs_113_0 (a0 : Value) (l2 : List Value) (N1 : List Value → Heap → Prop) (v3 : Value) (h : Heap) (κ : Value → Heap → Prop) : Prop :=
 indexAddrS False 1 a0 (slot l2 10) h fun v4 h =>
 load1 False v4 h fun v5 h =>
 binB False Tryz.prog .neq 3 false false v5 (Value.int .i64 (0)) h fun v6 h =>
 CondW v6 (
 κ v5 h) (
 binB False Tryz.prog .add 3 true false (slot l2 10) (Value.int .i64 (1)) h fun v7 h =>
 N1 [v3, v4, v5, v5, v5, (Value.int .i64 (0)), v6, (slot l2 7), (slot l2 8), v7, v7] h)

/-- cmp.Or[int] -/
theorem rs_113 (a0 : Value) (h : Heap) (κ : Value → Heap → Prop) : BodyW Tryz.prog 113 [a0] h κ = (
 lenSli False a0 h fun v0 h =>
 LoopR [undef, undef, undef, undef, undef, undef, undef, undef, (Value.int .i64 (0)), undef, (Value.int .i64 (0))] h fun l2 h N1 =>
 binB False Tryz.prog .lss 3 false false (slot l2 10) v0 h fun v3 h =>
 CondW v3 (
 rs_113_0 a0 l2 N1 v3 h κ) (
 κ (Value.int .i64 (0)) h)) := by kernel_rfl

noncomputable def rs_114_0 (a0 : Value) (a1 : Value) (h : Heap) (κ : Value → Heap → Prop) : Prop :=
 binB False Tryz.prog .lss 3 false false a0 a1 h fun v2 h =>
 CondW v2 (
 κ (Value.int .i64 (-1)) h) (
 binB False Tryz.prog .gtr 3 false false a0 a1 h fun v3 h =>
 CondW v3 (
 κ (Value.int .i64 (1)) h) (
 κ (Value.int .i64 (0)) h))

/-- cmp.Compare[int] -/
theorem rs_114 (a0 a1 : Value) (h : Heap) (κ : Value → Heap → Prop) : BodyW Tryz.prog 114 [a0, a1] h κ = (
 CallW Tryz.prog 127 [a0] h fun v0 h =>
 CallW Tryz.prog 127 [a1] h fun v1 h =>
 CondW v0 (
 CondW v1 (
 κ (Value.int .i64 (0)) h) (
 κ (Value.int .i64 (-1)) h)) (
 CondW v1 (
 κ (Value.int .i64 (1)) h) (
 rs_114_0 a0 a1 h κ))) := by kernel_rfl

/-- (latchstring/queue.view).place$1 -/
theorem rs_115 (a0 a1 : Value) (h : Heap) (κ : Value → Heap → Prop) : BodyW Tryz.prog 115 [a0, a1] h κ = (
 cellsK False (Value.cells a0).toList 47 false fun o0 => newBlock False o0 h fun b1 h =>
 fieldAddrB False 0 (ptrTo b1) h fun v2 h =>
 load1 False v2 h fun v3 h =>
 load1 False a1 h fun v4 h =>
 binB False Tryz.prog .eql 3 false false v3 v4 h fun v5 h =>
 κ v5 h) := by kernel_rfl

noncomputable def rs_117_0 (v5 : Value) (a2 : Value) (a0 : Value) (N12 : List Value → Heap → Prop) (l3 : List Value) (h : Heap) : Prop :=
 binB False Tryz.prog .add 3 true false v5 (Value.int .i64 (1)) h fun v14 h =>
 binB False Tryz.prog .lss 3 false false v14 a2 h fun v15 h =>
 GuardW (wantV v15 true) (fun K16 =>
 K16 a0 h) h fun v17 h =>
 GuardW (wantV v15 true) (fun K18 =>
 K18 v14 h) h fun v19 h =>
 GuardW (wantV v15 true) (fun K20 =>
 K20 v5 h) h fun v21 h =>
 GuardW (wantV v15 true) (fun K22 =>
 CallI Tryz.prog "Less" v17 [v19, v21] h K22) h fun v23 h =>
 pickB False v15 v23 (Value.bool false) h fun v24 h =>
 CondW v24 (
 N12 [v5, v14, v14, v14, a2, v15, v15, v17, v19, v21, v23, v24, v14, v14] h) (
 N12 [v5, v14, v14, v14, a2, v15, v15, v17, v19, v21, v23, v24, (slot l3 24), v5] h)

noncomputable def rs_117_1 (v5 : Value) (a2 : Value) (a0 : Value) (l3 : List Value) (N0 : List Value → Heap → Prop) (v4 : Value) (v6 : Value) (v8 : Value) (v10 : Value) (v11 : Value) (N2 : List Value → Heap → Prop) (h : Heap) : Prop :=
 JoinR (fun N12 =>
 rs_117_0 v5 a2 a0 N12 l3 h) fun l13 h =>
 CallI Tryz.prog "Less" a0 [(slot l13 13), (slot l3 36)] h fun v25 h =>
 unB False .not v25 h fun v26 h =>
 CondW v26 (
 N0 [(slot l3 36), v4, v5, v5, v5, a2, v6, v6, v8, v10, v11, v5, (slot l13 0), (slot l13 1), (slot l13 2), (slot l13 3), (slot l13 4), (slot l13 5), (slot l13 6), (slot l13 7), (slot l13 8), (slot l13 9), (slot l13 10), (slot l13 11), (slot l13 12), (slot l13 13), a0, (slot l13 13), (slot l3 36), v25, v26, (slot l3 31), (slot l3 32), (slot l3 33), (slot l3 34), (slot l3 35), (slot l3 36)] h) (
 CallI Tryz.prog "Swap" a0 [(slot l3 36), (slot l13 13)] h fun v27 h =>
 N2 [(slot l3 36), v4, v5, v5, v5, a2, v6, v6, v8, v10, v11, v5, (slot l13 0), (slot l13 1), (slot l13 2), (slot l13 3), (slot l13 4), (slot l13 5), (slot l13 6), (slot l13 7), (slot l13 8), (slot l13 9), (slot l13 10), (slot l13 11), (slot l13 12), (slot l13 13), a0, (slot l13 13), (slot l3 36), v25, v26, a0, (slot l3 36), (slot l13 13), v27, (slot l13 13), (slot l13 13)] h)

noncomputable def rs_117_2 (l3 : List Value) (a2 : Value) (N0 : List Value → Heap → Prop) (a0 : Value) (N2 : List Value → Heap → Prop) (h : Heap) : Prop :=
 binB False Tryz.prog .mul 3 true false (Value.int .i64 (2)) (slot l3 36) h fun v4 h =>
 binB False Tryz.prog .add 3 true false v4 (Value.int .i64 (1)) h fun v5 h =>
 binB False Tryz.prog .geq 3 false false v5 a2 h fun v6 h =>
 GuardW (wantV v6 false) (fun K7 =>
 K7 v5 h) h fun v8 h =>
 GuardW (wantV v6 false) (fun K9 =>
 binB False Tryz.prog .lss 3 true false v8 (Value.int .i64 (0)) h K9) h fun v10 h =>
 pickB False v6 (Value.bool true) v10 h fun v11 h =>
 CondW v11 (
 N0 [(slot l3 36), v4, v5, v5, v5, a2, v6, v6, v8, v10, v11, (slot l3 11), (slot l3 12), (slot l3 13), (slot l3 14), (slot l3 15), (slot l3 16), (slot l3 17), (slot l3 18), (slot l3 19), (slot l3 20), (slot l3 21), (slot l3 22), (slot l3 23), (slot l3 24), (slot l3 25), (slot l3 26), (slot l3 27), (slot l3 28), (slot l3 29), (slot l3 30), (slot l3 31), (slot l3 32), (slot l3 33), (slot l3 34), (slot l3 35), (slot l3 36)] h) (
 rs_117_1 v5 a2 a0 l3 N0 v4 v6 v8 v10 v11 N2 h)

/-- container/heap.down -/
theorem rs_117 (a0 a1 a2 : Value) (h : Heap) (κ : Value → Heap → Prop) : BodyW Tryz.prog 117 [a0, a1, a2] h κ = (
 JoinR (fun N0 =>
 LoopR [undef, undef, undef, undef, undef, undef, undef, undef, undef, undef, undef, undef, undef, undef, undef, undef, undef, undef, undef, undef, undef, undef, undef, undef, undef, undef, undef, undef, undef, undef, undef, undef, undef, undef, undef, undef, a1] h fun l3 h N2 =>
 rs_117_2 l3 a2 N0 a0 N2 h) fun l1 h =>
 binB False Tryz.prog .gtr 3 false false (slot l1 36) a1 h fun v28 h =>
 κ v28 h) := by kernel_rfl

/-- (latchstring/queue.view).first$1 -/
theorem rs_118 (a0 : Value) (h : Heap) (κ : Value → Heap → Prop) : BodyW Tryz.prog 118 [a0] h κ = (
 cellsK False (Value.cells a0).toList 47 false fun o0 => newBlock False o0 h fun b1 h =>
 loadA False 5 (ptrTo b1) h fun v2 h =>
 CallW Tryz.prog 108 [v2] h fun v3 h =>
 unB False .not v3 h fun v4 h =>
 κ v4 h) := by kernel_rfl

/-- (latchstring/queue.view).fits$1 -/
theorem rs_119 (a0 a1 : Value) (h : Heap) (κ : Value → Heap → Prop) : BodyW Tryz.prog 119 [a0, a1] h κ = (
 cellsK False (Value.cells a0).toList 47 false fun o0 => newBlock False o0 h fun b1 h =>
 fieldAddrB False 0 (ptrTo b1) h fun v2 h =>
 load1 False v2 h fun v3 h =>
 fieldAddrB False 0 a1 h fun v4 h =>
 load1 False v4 h fun v5 h =>
 binB False Tryz.prog .neq 3 false false v3 v5 h fun v6 h =>
 GuardW (wantV v6 true) (fun K7 =>
 loadA False 5 (ptrTo b1) h K7) h fun v8 h =>
 GuardW (wantV v6 true) (fun K9 =>
 CallW Tryz.prog 108 [v8] h K9) h fun v10 h =>
 pickB False v6 v10 (Value.bool false) h fun v11 h =>
 GuardW (wantV v11 true) (fun K12 =>
 fieldAddrB False 2 (ptrTo b1) h K12) h fun v13 h =>
 GuardW (wantV v11 true) (fun K14 =>
 load1 False v13 h K14) h fun v15 h =>
 GuardW (wantV v11 true) (fun K16 =>
 fieldAddrB False 3 a1 h K16) h fun v17 h =>
 GuardW (wantV v11 true) (fun K18 =>
 load1 False v17 h K18) h fun v19 h =>
 GuardW (wantV v11 true) (fun K20 =>
 CallW Tryz.prog 120 [v15, v19] h K20) h fun v21 h =>
 GuardW (wantV v11 true) (fun K22 =>
 unB False .not v21 h K22) h fun v23 h =>
 pickB False v11 v23 (Value.bool false) h fun v24 h =>
 κ v24 h) := by kernel_rfl

/-- (latchstring/queue.view).without$1 -/
theorem rs_122 (a0 a1 : Value) (h : Heap) (κ : Value → Heap → Prop) : BodyW Tryz.prog 122 [a0, a1] h κ = (
 cellsK False (Value.cells a0).toList 47 false fun o0 => newBlock False o0 h fun b1 h =>
 fieldAddrB False 0 (ptrTo b1) h fun v2 h =>
 load1 False v2 h fun v3 h =>
 load1 False a1 h fun v4 h =>
 binB False Tryz.prog .eql 3 false false v3 v4 h fun v5 h =>
 κ v5 h) := by kernel_rfl

noncomputable def rs_125_0 (a0 : Value) (l1 : List Value) (l16 : List Value) (a4 : Value) (v2 : Value) (l8 : List Value) (N0 : List Value → Heap → Prop) (v3 : Value) (v5 : Value) (v12 : Value) (v13 : Value) (v14 : Value) (l23 : List Value) (v33 : Value) (v34 : Value) (v35 : Value) (v37 : Value) (v39 : Value) (v41 : Value) (v43 : Value) (v45 : Value) (v47 : Value) (v49 : Value) (v51 : Value) (v53 : Value) (v55 : Value) (v57 : Value) (v59 : Value) (v61 : Value) (v62 : Value) (h : Heap) : Prop :=
 CallW Tryz.prog 138 [a0, (slot l1 127), (slot l1 140), (slot l16 13), a4] h fun v64 h =>
 extractB False 0 v64 h fun v65 h =>
 extractB False 1 v64 h fun v66 h =>
 binB False Tryz.prog .sub 3 false false v65 (slot l1 127) h fun v67 h =>
 binB False Tryz.prog .sub 3 false false (slot l1 140) v65 h fun v68 h =>
 binB False Tryz.prog .quo 3 true false v2 (Value.int .i64 (8)) h fun v69 h =>
 binB False Tryz.prog .lss 3 false false v67 v68 h fun v70 h =>
 CondW v70 (
 binB False Tryz.prog .geq 3 false false v67 v69 h fun v71 h =>
 CallW Tryz.prog 125 [a0, (slot l1 127), v65, (slot l8 9), a4] h fun v72 h =>
 binB False Tryz.prog .add 3 true false v65 (Value.int .i64 (1)) h fun v73 h =>
 N0 [(slot l1 140), (slot l1 127), v2, v2, v2, v3, (slot l1 6), (slot l1 7), (slot l1 8), (slot l1 9), (slot l1 10), (slot l1 27), v5, (slot l1 13), (slot l1 14), (slot l1 15), (slot l1 16), (slot l1 17), (slot l8 0), (slot l8 1), (slot l8 2), (slot l8 3), (slot l8 4), (slot l8 5), (slot l8 6), (slot l8 7), (slot l8 8), (slot l8 9), a0, (slot l1 127), (slot l1 140), a4, v12, v12, v13, v14, (slot l16 0), (slot l16 1), (slot l16 2), (slot l16 3), (slot l16 4), (slot l16 5), (slot l16 6), (slot l16 7), (slot l16 8), (slot l16 9), (slot l16 10), (slot l16 11), (slot l16 12), (slot l16 13), (slot l16 14), (slot l23 0), (slot l23 1), (slot l23 2), (slot l23 3), (slot l23 4), (slot l23 5), (slot l23 6), (slot l23 7), (slot l23 8), (slot l23 9), (slot l23 10), (slot l23 11), (slot l23 12), v33, v34, v35, v37, v39, v41, v43, v45, v47, v49, v51, v53, v55, v57, v59, v61, v62, (slot l1 81), (slot l1 82), (slot l1 83), (slot l1 84), (slot l1 85), (slot l1 86), (slot l1 87), (slot l1 88), a0, (slot l1 127), (slot l1 140), (slot l16 13), a4, v64, v64, v65, v66, v65, v66, v66, v66, v65, (slot l1 127), v67, (slot l1 140), v65, v68, v67, v68, v2, v69, v69, v67, v68, v70, v67, v69, v71, a0, (slot l1 127), v65, (slot l8 9), a4, v72, v65, v73, v73, (slot l1 128), (slot l1 129), (slot l1 130), v71, (slot l1 132), (slot l1 133), (slot l1 134), (slot l1 135), (slot l1 136), (slot l1 137), (slot l1 138), (slot l1 139), (slot l1 140)] h) (
 binB False Tryz.prog .geq 3 false false v68 v69 h fun v74 h =>
 binB False Tryz.prog .add 3 true false v65 (Value.int .i64 (1)) h fun v75 h =>
 CallW Tryz.prog 125 [a0, v75, (slot l1 140), (slot l8 9), a4] h fun v76 h =>
 N0 [(slot l1 140), (slot l1 127), v2, v2, v2, v3, (slot l1 6), (slot l1 7), (slot l1 8), (slot l1 9), (slot l1 10), (slot l1 27), v5, (slot l1 13), (slot l1 14), (slot l1 15), (slot l1 16), (slot l1 17), (slot l8 0), (slot l8 1), (slot l8 2), (slot l8 3), (slot l8 4), (slot l8 5), (slot l8 6), (slot l8 7), (slot l8 8), (slot l8 9), a0, (slot l1 127), (slot l1 140), a4, v12, v12, v13, v14, (slot l16 0), (slot l16 1), (slot l16 2), (slot l16 3), (slot l16 4), (slot l16 5), (slot l16 6), (slot l16 7), (slot l16 8), (slot l16 9), (slot l16 10), (slot l16 11), (slot l16 12), (slot l16 13), (slot l16 14), (slot l23 0), (slot l23 1), (slot l23 2), (slot l23 3), (slot l23 4), (slot l23 5), (slot l23 6), (slot l23 7), (slot l23 8), (slot l23 9), (slot l23 10), (slot l23 11), (slot l23 12), v33, v34, v35, v37, v39, v41, v43, v45, v47, v49, v51, v53, v55, v57, v59, v61, v62, (slot l1 81), (slot l1 82), (slot l1 83), (slot l1 84), (slot l1 85), (slot l1 86), (slot l1 87), (slot l1 88), a0, (slot l1 127), (slot l1 140), (slot l16 13), a4, v64, v64, v65, v66, v65, v66, v66, v66, v65, (slot l1 127), v67, (slot l1 140), v65, v68, v67, v68, v2, v69, v69, v67, v68, v70, (slot l1 116), (slot l1 117), (slot l1 118), (slot l1 119), (slot l1 120), (slot l1 121), (slot l1 122), (slot l1 123), (slot l1 124), (slot l1 125), (slot l1 126), (slot l1 127), v68, v69, v74, v74, a0, v65, v75, (slot l1 140), (slot l8 9), a4, v76, v65, v65] h)

noncomputable def rs_125_1 (l1 : List Value) (l16 : List Value) (a0 : Value) (a4 : Value) (N22 : List Value → Heap → Prop) (h : Heap) (κ : Value → Heap → Prop) : Prop :=
 GuardW (wantV (slot l1 131) true) (fun K24 =>
 K24 (slot l1 101) h) h fun v25 h =>
 pickB False (slot l1 131) v25 (Value.bool false) h fun v26 h =>
 GuardW (wantV v26 true) (fun K27 =>
 K27 (slot l16 14) h) h fun v28 h =>
 GuardW (wantV v26 true) (fun K29 =>
 binB False Tryz.prog .eql 162 true false v28 (Value.int .i64 (1)) h K29) h fun v30 h =>
 pickB False v26 v30 (Value.bool false) h fun v31 h =>
 CondW v31 (
 CallW Tryz.prog 136 [a0, (slot l1 127), (slot l1 140), a4] h fun v32 h =>
 CondW v32 (
 κ (Value.tuple (Array.mk [])) h) (
 N22 [(slot l1 131), (slot l1 131), v25, v26, v26, v28, v30, v31, a0, (slot l1 127), (slot l1 140), a4, v32] h)) (
 N22 [(slot l1 131), (slot l1 131), v25, v26, v26, v28, v30, v31, (slot l1 59), (slot l1 60), (slot l1 61), (slot l1 62), (slot l1 63)] h)

noncomputable def rs_125_2 (l1 : List Value) (a4 : Value) (a0 : Value) (l16 : List Value) (N0 : List Value → Heap → Prop) (v2 : Value) (v3 : Value) (v5 : Value) (l8 : List Value) (v12 : Value) (v13 : Value) (v14 : Value) (l23 : List Value) (h : Heap) : Prop :=
 RdK (some (slot l1 127)) h fun v33 h =>
 RdK (binB none Tryz.prog .gtr 3 true false v33 (Value.int .i64 (0)) h fun v _ => some v) h fun v34 h =>
 RdK (some v34) h fun v35 h =>
 GuardW (wantV v35 true) (fun K36 =>
 RdK (some a4) h K36) h fun v37 h =>
 GuardW (wantV v35 true) (fun K38 =>
 RdK (some a0) h K38) h fun v39 h =>
 GuardW (wantV v35 true) (fun K40 =>
 RdK (some (slot l1 127)) h K40) h fun v41 h =>
 GuardW (wantV v35 true) (fun K42 =>
 RdK (binB none Tryz.prog .sub 3 true false v41 (Value.int .i64 (1)) h fun v _ => some v) h K42) h fun v43 h =>
 GuardW (wantV v35 true) (fun K44 =>
 RdK (indexAddrS none 2 v39 v43 h fun v _ => some v) h K44) h fun v45 h =>
 GuardW (wantV v35 true) (fun K46 =>
 RdK (loadA none 2 v45 h fun v _ => some v) h K46) h fun v47 h =>
 GuardW (wantV v35 true) (fun K48 =>
 RdK (some a0) h K48) h fun v49 h =>
 GuardW (wantV v35 true) (fun K50 =>
 RdK (some (slot l16 13)) h K50) h fun v51 h =>
 GuardW (wantV v35 true) (fun K52 =>
 RdK (indexAddrS none 2 v49 v51 h fun v _ => some v) h K52) h fun v53 h =>
 GuardW (wantV v35 true) (fun K54 =>
 RdK (loadA none 2 v53 h fun v _ => some v) h K54) h fun v55 h =>
 GuardW (wantV v35 true) (fun K56 =>
 CallV Tryz.prog v37 [v47, v55] h K56) h fun v57 h =>
 GuardW (wantV v35 true) (fun K58 =>
 RdK (binB none Tryz.prog .lss 3 true false v57 (Value.int .i64 (0)) h fun v _ => some v) h K58) h fun v59 h =>
 GuardW (wantV v35 true) (fun K60 =>
 RdK (unB none .not v59 h fun v _ => some v) h K60) h fun v61 h =>
 RdK (pickB none v35 v61 (Value.bool false) h fun v _ => some v) h fun v62 h =>
 CondW v62 (
 CallW Tryz.prog 137 [a0, (slot l1 127), (slot l1 140), (slot l16 13), a4] h fun v63 h =>
 N0 [(slot l1 140), (slot l1 127), v2, v2, v2, v3, (slot l1 6), (slot l1 7), (slot l1 8), (slot l1 9), (slot l1 10), (slot l1 27), v5, (slot l1 13), (slot l1 14), (slot l1 15), (slot l1 16), (slot l1 17), (slot l8 0), (slot l8 1), (slot l8 2), (slot l8 3), (slot l8 4), (slot l8 5), (slot l8 6), (slot l8 7), (slot l8 8), (slot l8 9), a0, (slot l1 127), (slot l1 140), a4, v12, v12, v13, v14, (slot l16 0), (slot l16 1), (slot l16 2), (slot l16 3), (slot l16 4), (slot l16 5), (slot l16 6), (slot l16 7), (slot l16 8), (slot l16 9), (slot l16 10), (slot l16 11), (slot l16 12), (slot l16 13), (slot l16 14), (slot l23 0), (slot l23 1), (slot l23 2), (slot l23 3), (slot l23 4), (slot l23 5), (slot l23 6), (slot l23 7), (slot l23 8), (slot l23 9), (slot l23 10), (slot l23 11), (slot l23 12), v33, v34, v35, v37, v39, v41, v43, v45, v47, v49, v51, v53, v55, v57, v59, v61, v62, a0, (slot l1 127), (slot l1 140), (slot l16 13), a4, v63, v63, v63, (slot l1 89), (slot l1 90), (slot l1 91), (slot l1 92), (slot l1 93), (slot l1 94), (slot l1 95), (slot l1 96), (slot l1 97), (slot l1 98), (slot l1 99), (slot l1 100), (slot l1 101), (slot l1 102), (slot l1 103), (slot l1 104), (slot l1 105), (slot l1 106), (slot l1 107), (slot l1 108), (slot l1 109), (slot l1 110), (slot l1 111), (slot l1 112), (slot l1 113), (slot l1 114), (slot l1 115), (slot l1 116), (slot l1 117), (slot l1 118), (slot l1 119), (slot l1 120), (slot l1 121), (slot l1 122), (slot l1 123), (slot l1 124), (slot l1 125), (slot l1 126), v63, (slot l1 128), (slot l1 129), (slot l1 130), (slot l1 131), (slot l1 132), (slot l1 133), (slot l1 134), (slot l1 135), (slot l1 136), (slot l1 137), (slot l1 138), (slot l1 139), (slot l1 140)] h) (
 rs_125_0 a0 l1 l16 a4 v2 l8 N0 v3 v5 v12 v13 v14 l23 v33 v34 v35 v37 v39 v41 v43 v45 v47 v49 v51 v53 v55 v57 v59 v61 v62 h)

noncomputable def rs_125_3 (v14 : Value) (a0 : Value) (l1 : List Value) (a4 : Value) (v13 : Value) (N15 : List Value → Heap → Prop) (h : Heap) : Prop :=
 binB False Tryz.prog .eql 162 true false v14 (Value.int .i64 (2)) h fun v17 h =>
 CondW v17 (
 CallW Tryz.prog 135 [a0, (slot l1 127), (slot l1 140), a4] h fun v18 h =>
 binB False Tryz.prog .sub 3 true false (slot l1 140) (Value.int .i64 (1)) h fun v19 h =>
 binB False Tryz.prog .sub 3 false false v13 (slot l1 127) h fun v20 h =>
 binB False Tryz.prog .sub 3 false false v19 v20 h fun v21 h =>
 N15 [v14, v17, a0, (slot l1 127), (slot l1 140), a4, v18, (slot l1 140), v19, v13, (slot l1 127), v20, v21, v21, (Value.int .i64 (1))] h) (
 N15 [v14, v17, (slot l1 38), (slot l1 39), (slot l1 40), (slot l1 41), (slot l1 42), (slot l1 43), (slot l1 44), (slot l1 45), (slot l1 46), (slot l1 47), (slot l1 48), v13, v14] h)

noncomputable def rs_125_4 (a0 : Value) (l1 : List Value) (a4 : Value) (N0 : List Value → Heap → Prop) (v2 : Value) (v3 : Value) (v5 : Value) (l8 : List Value) (h : Heap) (κ : Value → Heap → Prop) : Prop :=
 CallW Tryz.prog 134 [a0, (slot l1 127), (slot l1 140), a4] h fun v12 h =>
 extractB False 0 v12 h fun v13 h =>
 extractB False 1 v12 h fun v14 h =>
 JoinR (fun N15 =>
 rs_125_3 v14 a0 l1 a4 v13 N15 h) fun l16 h =>
 JoinR (fun N22 =>
 rs_125_1 l1 l16 a0 a4 N22 h κ) fun l23 h =>
 rs_125_2 l1 a4 a0 l16 N0 v2 v3 v5 l8 v12 v13 v14 l23 h

noncomputable def rs_125_5 (l1 : List Value) (a0 : Value) (a4 : Value) (N0 : List Value → Heap → Prop) (v2 : Value) (v3 : Value) (v5 : Value) (h : Heap) (κ : Value → Heap → Prop) : Prop :=
 JoinR (fun N7 =>
 unB False .not (slot l1 131) h fun v9 h =>
 CondW v9 (
 CallW Tryz.prog 133 [a0, (slot l1 127), (slot l1 140), a4] h fun v10 h =>
 binB False Tryz.prog .sub 3 true false (slot l1 27) (Value.int .i64 (1)) h fun v11 h =>
 N7 [(slot l1 131), v9, a0, (slot l1 127), (slot l1 140), a4, v10, (slot l1 27), v11, v11] h) (
 N7 [(slot l1 131), v9, (slot l1 20), (slot l1 21), (slot l1 22), (slot l1 23), (slot l1 24), (slot l1 25), (slot l1 26), (slot l1 27)] h)) fun l8 h =>
 rs_125_4 a0 l1 a4 N0 v2 v3 v5 l8 h κ

noncomputable def rs_125_6 (l1 : List Value) (a0 : Value) (a4 : Value) (N0 : List Value → Heap → Prop) (h : Heap) (κ : Value → Heap → Prop) : Prop :=
 binB False Tryz.prog .sub 3 false false (slot l1 140) (slot l1 127) h fun v2 h =>
 binB False Tryz.prog .leq 3 true false v2 (Value.int .i64 (12)) h fun v3 h =>
 CondW v3 (
 CallW Tryz.prog 131 [a0, (slot l1 127), (slot l1 140), a4] h fun v4 h =>
 κ (Value.tuple (Array.mk [])) h) (
 binB False Tryz.prog .eql 3 true false (slot l1 27) (Value.int .i64 (0)) h fun v5 h =>
 CondW v5 (
 CallW Tryz.prog 132 [a0, (slot l1 127), (slot l1 140), a4] h fun v6 h =>
 κ (Value.tuple (Array.mk [])) h) (
 rs_125_5 l1 a0 a4 N0 v2 v3 v5 h κ))

/-- slices.pdqsortCmpFunc[latchstring/api.Name] -/
theorem rs_125 (a0 a1 a2 a3 a4 : Value) (h : Heap) (κ : Value → Heap → Prop) : BodyW Tryz.prog 125 [a0, a1, a2, a3, a4] h κ = (
 LoopR [undef, undef, undef, undef, undef, undef, undef, undef, undef, undef, undef, undef, undef, undef, undef, undef, undef, undef, undef, undef, undef, undef, undef, undef, undef, undef, undef, a3, undef, undef, undef, undef, undef, undef, undef, undef, undef, undef, undef, undef, undef, undef, undef, undef, undef, undef, undef, undef, undef, undef, undef, undef, undef, undef, undef, undef, undef, undef, undef, undef, undef, undef, undef, undef, undef, undef, undef, undef, undef, undef, undef, undef, undef, undef, undef, undef, undef, undef, undef, undef, undef, undef, undef, undef, undef, undef, undef, undef, undef, undef, undef, undef, undef, undef, undef, undef, undef, undef, undef, undef, undef, (Value.bool true), undef, undef, undef, undef, undef, undef, undef, undef, undef, undef, undef, undef, undef, undef, undef, undef, undef, undef, undef, undef, undef, undef, undef, undef, undef, a1, undef, undef, undef, (Value.bool true), undef, undef, undef, undef, undef, undef, undef, undef, a2] h fun l1 h N0 =>
 rs_125_6 l1 a0 a4 N0 h κ) := by kernel_rfl

/-- cmp.isNaN[int] -/
theorem rs_127 (a0 : Value) (h : Heap) (κ : Value → Heap → Prop) : BodyW Tryz.prog 127 [a0] h κ = (
 binB False Tryz.prog .neq 3 false false a0 a0 h fun v0 h =>
 κ v0 h) := by kernel_rfl

noncomputable def rs_131_0 (a0 : Value) (l5 : List Value) (N4 : List Value → Heap → Prop) (v6 : Value) (v7 : Value) (v8 : Value) (v9 : Value) (v11 : Value) (v13 : Value) (v15 : Value) (v17 : Value) (v19 : Value) (v21 : Value) (v23 : Value) (v25 : Value) (v27 : Value) (v29 : Value) (v31 : Value) (v33 : Value) (v34 : Value) (h : Heap) : Prop :=
 RdK (some a0) h fun v35 h =>
 RdK (some (slot l5 35)) h fun v36 h =>
 RdK (some a0) h fun v37 h =>
 RdK (some (slot l5 35)) h fun v38 h =>
 RdK (binB none Tryz.prog .sub 3 true false v38 (Value.int .i64 (1)) h fun v _ => some v) h fun v39 h =>
 RdK (some a0) h fun v40 h =>
 RdK (some (slot l5 35)) h fun v41 h =>
 RdK (binB none Tryz.prog .sub 3 true false v41 (Value.int .i64 (1)) h fun v _ => some v) h fun v42 h =>
 RdK (indexAddrS none 2 v40 v42 h fun v _ => some v) h fun v43 h =>
 RdK (loadA none 2 v43 h fun v _ => some v) h fun v44 h =>
 RdK (some a0) h fun v45 h =>
 RdK (some (slot l5 35)) h fun v46 h =>
 RdK (indexAddrS none 2 v45 v46 h fun v _ => some v) h fun v47 h =>
 RdK (loadA none 2 v47 h fun v _ => some v) h fun v48 h =>
 RdK (indexAddrS none 2 v35 v36 h fun v _ => some v) h fun v49 h =>
 storeV False 2 v49 v44 h fun v50 h =>
 SameK ((reV (some a0) v37) && ((reV (some (slot l5 35)) v38) && ((reV (binB none Tryz.prog .sub 3 true false v38 (Value.int .i64 (1)) h fun v _ => some v) v39) && true))) (RdK (indexAddrS none 2 v37 v39 h fun v _ => some v) h fun v51 h =>
 storeV False 2 v51 v48 h fun v52 h =>
 binB False Tryz.prog .sub 3 true false (slot l5 35) (Value.int .i64 (1)) h fun v53 h =>
 N4 [v6, v7, v8, v9, v11, v13, v15, v17, v19, v21, v23, v25, v27, v29, v31, v33, v34, v35, v36, v37, v38, v39, v40, v41, v42, v43, v44, v45, v46, v47, v48, v49, v51, (slot l5 35), v53, v53] h)

noncomputable def rs_131_1 (l5 : List Value) (a1 : Value) (a3 : Value) (a0 : Value) (N4 : List Value → Heap → Prop) (l2 : List Value) (N1 : List Value → Heap → Prop) (a2 : Value) (v3 : Value) (h : Heap) : Prop :=
 RdK (some (slot l5 35)) h fun v6 h =>
 RdK (some a1) h fun v7 h =>
 RdK (binB none Tryz.prog .gtr 3 false false v6 v7 h fun v _ => some v) h fun v8 h =>
 RdK (some v8) h fun v9 h =>
 GuardW (wantV v9 true) (fun K10 =>
 RdK (some a3) h K10) h fun v11 h =>
 GuardW (wantV v9 true) (fun K12 =>
 RdK (some a0) h K12) h fun v13 h =>
 GuardW (wantV v9 true) (fun K14 =>
 RdK (some (slot l5 35)) h K14) h fun v15 h =>
 GuardW (wantV v9 true) (fun K16 =>
 RdK (indexAddrS none 2 v13 v15 h fun v _ => some v) h K16) h fun v17 h =>
 GuardW (wantV v9 true) (fun K18 =>
 RdK (loadA none 2 v17 h fun v _ => some v) h K18) h fun v19 h =>
 GuardW (wantV v9 true) (fun K20 =>
 RdK (some a0) h K20) h fun v21 h =>
 GuardW (wantV v9 true) (fun K22 =>
 RdK (some (slot l5 35)) h K22) h fun v23 h =>
 GuardW (wantV v9 true) (fun K24 =>
 RdK (binB none Tryz.prog .sub 3 true false v23 (Value.int .i64 (1)) h fun v _ => some v) h K24) h fun v25 h =>
 GuardW (wantV v9 true) (fun K26 =>
 RdK (indexAddrS none 2 v21 v25 h fun v _ => some v) h K26) h fun v27 h =>
 GuardW (wantV v9 true) (fun K28 =>
 RdK (loadA none 2 v27 h fun v _ => some v) h K28) h fun v29 h =>
 GuardW (wantV v9 true) (fun K30 =>
 CallV Tryz.prog v11 [v19, v29] h K30) h fun v31 h =>
 GuardW (wantV v9 true) (fun K32 =>
 RdK (binB none Tryz.prog .lss 3 true false v31 (Value.int .i64 (0)) h fun v _ => some v) h K32) h fun v33 h =>
 RdK (pickB none v9 v33 (Value.bool false) h fun v _ => some v) h fun v34 h =>
 CondW v34 (
 rs_131_0 a0 l5 N4 v6 v7 v8 v9 v11 v13 v15 v17 v19 v21 v23 v25 v27 v29 v31 v33 v34 h) (
 binB False Tryz.prog .add 3 true false (slot l2 42) (Value.int .i64 (1)) h fun v54 h =>
 N1 [(slot l2 42), a2, v3, (slot l2 42), v6, v7, v8, v9, v11, v13, v15, v17, v19, v21, v23, v25, v27, v29, v31, v33, v34, (slot l5 17), (slot l5 18), (slot l5 19), (slot l5 20), (slot l5 21), (slot l5 22), (slot l5 23), (slot l5 24), (slot l5 25), (slot l5 26), (slot l5 27), (slot l5 28), (slot l5 29), (slot l5 30), (slot l5 31), (slot l5 32), (slot l5 33), (slot l5 34), (slot l5 35), (slot l2 42), v54, v54] h)

/-- slices.insertionSortCmpFunc[latchstring/api.Name] -/
theorem rs_131 (a0 a1 a2 a3 : Value) (h : Heap) (κ : Value → Heap → Prop) : BodyW Tryz.prog 131 [a0, a1, a2, a3] h κ = (
 binB False Tryz.prog .add 3 true false a1 (Value.int .i64 (1)) h fun v0 h =>
 LoopR [undef, undef, undef, undef, undef, undef, undef, undef, undef, undef, undef, undef, undef, undef, undef, undef, undef, undef, undef, undef, undef, undef, undef, undef, undef, undef, undef, undef, undef, undef, undef, undef, undef, undef, undef, undef, undef, undef, undef, undef, undef, undef, v0] h fun l2 h N1 =>
 binB False Tryz.prog .lss 3 false false (slot l2 42) a2 h fun v3 h =>
 CondW v3 (
 LoopR [(slot l2 4), (slot l2 5), (slot l2 6), (slot l2 7), (slot l2 8), (slot l2 9), (slot l2 10), (slot l2 11), (slot l2 12), (slot l2 13), (slot l2 14), (slot l2 15), (slot l2 16), (slot l2 17), (slot l2 18), (slot l2 19), (slot l2 20), (slot l2 21), (slot l2 22), (slot l2 23), (slot l2 24), (slot l2 25), (slot l2 26), (slot l2 27), (slot l2 28), (slot l2 29), (slot l2 30), (slot l2 31), (slot l2 32), (slot l2 33), (slot l2 34), (slot l2 35), (slot l2 36), (slot l2 37), (slot l2 38), (slot l2 42)] h fun l5 h N4 =>
 rs_131_1 l5 a1 a3 a0 N4 l2 N1 a2 v3 h) (
 κ (Value.tuple (Array.mk [])) h)) := by kernel_rfl

/-- (sort.IntSlice).Less -/
theorem rs_163 (a0 a1 a2 : Value) (h : Heap) (κ : Value → Heap → Prop) : BodyW Tryz.prog 163 [a0, a1, a2] h κ = (
 RdK (some a0) h fun v0 h =>
 RdK (some a1) h fun v1 h =>
 RdK (indexAddrS none 1 v0 v1 h fun v _ => some v) h fun v2 h =>
 RdK (load1 none v2 h fun v _ => some v) h fun v3 h =>
 RdK (some a0) h fun v4 h =>
 RdK (some a2) h fun v5 h =>
 RdK (indexAddrS none 1 v4 v5 h fun v _ => some v) h fun v6 h =>
 RdK (load1 none v6 h fun v _ => some v) h fun v7 h =>
 RdK (binB none Tryz.prog .lss 3 false false v3 v7 h fun v _ => some v) h fun v8 h =>
 κ v8 h) := by kernel_rfl

/-- (sort.IntSlice).Swap -/
theorem rs_165 (a0 a1 a2 : Value) (h : Heap) (κ : Value → Heap → Prop) : BodyW Tryz.prog 165 [a0, a1, a2] h κ = (
 RdK (some a0) h fun v0 h =>
 RdK (some a1) h fun v1 h =>
 RdK (some a0) h fun v2 h =>
 RdK (some a2) h fun v3 h =>
 RdK (some a0) h fun v4 h =>
 RdK (some a2) h fun v5 h =>
 RdK (indexAddrS none 1 v4 v5 h fun v _ => some v) h fun v6 h =>
 RdK (load1 none v6 h fun v _ => some v) h fun v7 h =>
 RdK (some a0) h fun v8 h =>
 RdK (some a1) h fun v9 h =>
 RdK (indexAddrS none 1 v8 v9 h fun v _ => some v) h fun v10 h =>
 RdK (load1 none v10 h fun v _ => some v) h fun v11 h =>
 RdK (indexAddrS none 1 v0 v1 h fun v _ => some v) h fun v12 h =>
 storeV False 1 v12 v7 h fun v13 h =>
 SameK ((reV (some a0) v2) && ((reV (some a2) v3) && true)) (RdK (indexAddrS none 1 v2 v3 h fun v _ => some v) h fun v14 h =>
 storeV False 1 v14 v11 h fun v15 h =>
 κ (Value.tuple (Array.mk [])) h)) := by kernel_rfl

/-- (*latchstring/pool.free).Pop -/
theorem rs_166 (a0 : Value) (h : Heap) (κ : Value → Heap → Prop) : BodyW Tryz.prog 166 [a0] h κ = (
 nilB False a0 h fun v0 h =>
 fieldAddrB False 0 v0 h fun v1 h =>
 load1 False v1 h fun v2 h =>
 CallW Tryz.prog 46 [v2] h fun v3 h =>
 binB False Tryz.prog .sub 3 true false v3 (Value.int .i64 (1)) h fun v4 h =>
 nilB False a0 h fun v5 h =>
 fieldAddrB False 0 v5 h fun v6 h =>
 load1 False v6 h fun v7 h =>
 indexAddrS False 1 v7 v4 h fun v8 h =>
 load1 False v8 h fun v9 h =>
 nilB False a0 h fun v10 h =>
 fieldAddrB False 0 v10 h fun v11 h =>
 load1 False v11 h fun v12 h =>
 sliceB False 3 1 v12 none (some v4) none h fun v13 h =>
 nilB False a0 h fun v14 h =>
 fieldAddrB False 0 v14 h fun v15 h =>
 storeV False 1 v15 v13 h fun v16 h =>
 κ (Value.iface 3 v9) h) := by kernel_rfl

noncomputable def rs_167_0 (a0 : Value) (v1 : Value) (h : Heap) (κ : Value → Heap → Prop) : Prop :=
 nilB False a0 h fun v3 h =>
 fieldAddrB False 0 v3 h fun v4 h =>
 load1 False v4 h fun v5 h =>
 fillB False [(0, 1)] [v1] (repeatL [(Value.int .i64 (0))] 1) fun cs8 => cellsK False cs8 3 false fun o6 => newBlock False o6 h fun b7 h =>
 appendB False 3 1 [(Value.int .i64 (0))] false v5 (sliceTo 1 1 b7) h fun v9 h =>
 nilB False a0 h fun v10 h =>
 fieldAddrB False 0 v10 h fun v11 h =>
 storeV False 1 v11 v9 h fun v12 h =>
 κ (Value.tuple (Array.mk [])) h

/-- (*latchstring/pool.free).Push -/
theorem rs_167 (a0 a1 : Value) (h : Heap) (κ : Value → Heap → Prop) : BodyW Tryz.prog 167 [a0, a1] h κ = (
 typeAssertB False 3 (Value.int .i64 (0)) true a1 h fun v0 h =>
 extractB False 0 v0 h fun v1 h =>
 extractB False 1 v0 h fun v2 h =>
 CondW v2 (
 rs_167_0 a0 v1 h κ) (
 κ (Value.tuple (Array.mk [])) h)) := by kernel_rfl

end Go.Proofs
