/-
  PROVED HERE: a part of the proof, by a calculus of weakest conditions over an abstract heap (RS9).
-/
import Derived.Test.YtlmkplcfmngigaaV3
import Derived.Test.YtlmkplcfmngigaaProg
import Derived.KernelRfl
set_option linter.unusedVariables false
set_option linter.unusedSimpArgs false
set_option maxRecDepth 100000
namespace Go.Proofs
open Go.Vai

noncomputable def rs_7_0 (l25 : List Value) (v23 : Value) (N24 : List Value → Heap → Prop) (v26 : Value) (v27 : Value) (v28 : Value) (v29 : Value) (v30 : Value) (v31 : Value) (v32 : Value) (v34 : Value) (v36 : Value) (v38 : Value) (v40 : Value) (v42 : Value) (v44 : Value) (v46 : Value) (v47 : Value) (h : Heap) (κ : Value → Heap → Prop) : Prop :=
 RdK (some (slot l25 36)) h fun v48 h =>
 RdK (some v23) h fun v49 h =>
 RdK (some (slot l25 43)) h fun v50 h =>
 RdK (indexAddrS none 3 v49 v50 h fun v _ => some v) h fun v51 h =>
 RdK (fieldAddrB none 0 v51 h fun v _ => some v) h fun v52 h =>
 RdK (loadA none 2 v52 h fun v _ => some v) h fun v53 h =>
 RdK (some v23) h fun v54 h =>
 RdK (some (slot l25 43)) h fun v55 h =>
 RdK (indexAddrS none 3 v54 v55 h fun v _ => some v) h fun v56 h =>
 RdK (fieldAddrB none 2 v56 h fun v _ => some v) h fun v57 h =>
 RdK (load1 none v57 h fun v _ => some v) h fun v58 h =>
 RdK (fillB none [(0, 1), (1, 2), (3, 1)] [(Value.int .i64 (1)), v53, v58] [(Value.int .i64 (0)), (Value.int .i64 (0)), (Value.int .i64 (0)), (Value.int .i64 (0))] fun cs => some (Value.agg (Array.mk cs))) h fun v59 h =>
 CallW Try.prog 44 [v48, v59] h fun v60 h =>
 CallW Try.prog 45 [v60] h fun v61 h =>
 unB False .not v61 h fun v62 h =>
 CondW v62 (
 κ (Value.bool false) h) (
 binB False Try.prog .add 3 true false (slot l25 43) (Value.int .i64 (1)) h fun v63 h =>
 N24 [(slot l25 43), v23, v26, v27, (slot l25 36), v23, (slot l25 43), v28, v29, v30, v31, v31, v31, v32, v32, v34, v36, v38, v40, v42, v44, v46, v47, v48, v49, v50, v51, v52, v53, v54, v55, v56, v57, v58, v59, v60, v60, v60, v61, v62, (slot l25 40), (slot l25 43), v63, v63] h)

noncomputable def rs_7_1 (l25 : List Value) (a0 : Value) (l76 : List Value) (N75 : List Value → Heap → Prop) (l5 : List Value) (v77 : Value) (h : Heap) (κ : Value → Heap → Prop) : Prop :=
 RdK (some (slot l25 36)) h fun v78 h =>
 RdK (some a0) h fun v79 h =>
 RdK (some (slot l76 21)) h fun v80 h =>
 RdK (indexAddrS none 2 v79 v80 h fun v _ => some v) h fun v81 h =>
 RdK (fieldAddrB none 0 v81 h fun v _ => some v) h fun v82 h =>
 RdK (load1 none v82 h fun v _ => some v) h fun v83 h =>
 RdK (some a0) h fun v84 h =>
 RdK (some (slot l76 21)) h fun v85 h =>
 RdK (indexAddrS none 2 v84 v85 h fun v _ => some v) h fun v86 h =>
 RdK (fieldAddrB none 1 v86 h fun v _ => some v) h fun v87 h =>
 RdK (load1 none v87 h fun v _ => some v) h fun v88 h =>
 CallW Try.prog 39 [v83] h fun v89 h =>
 SameK ((reV (some (slot l25 36)) v78) && ((reV (some a0) v84) && ((reV (some (slot l76 21)) v85) && ((reV (indexAddrS none 2 v84 v85 h fun v _ => some v) v86) && ((reV (fieldAddrB none 1 v86 h fun v _ => some v) v87) && ((reV (load1 none v87 h fun v _ => some v) v88) && true)))))) (CallW Try.prog 40 [v88] h fun v90 h =>
 SameK ((reV (some (slot l25 36)) v78) && true) (CallW Try.prog 46 [v78, v89, v90] h fun v91 h =>
 RdK (unB none .not v91 h fun v _ => some v) h fun v92 h =>
 CondW v92 (
 κ (Value.bool false) h) (
 binB False Try.prog .add 3 true false (slot l76 21) (Value.int .i64 (1)) h fun v93 h =>
 N75 [(slot l76 21), (slot l5 101), v77, v78, v79, v80, v81, v82, v83, v89, v84, v85, v86, v87, v88, v90, v91, v92, (slot l76 18), (slot l76 21), v93, v93] h)))

noncomputable def rs_7_2 (v23 : Value) (l25 : List Value) (N24 : List Value → Heap → Prop) (v26 : Value) (v27 : Value) (h : Heap) (κ : Value → Heap → Prop) : Prop :=
 indexAddrS False 3 v23 (slot l25 43) h fun v28 h =>
 fieldAddrB False 0 v28 h fun v29 h =>
 loadA False 2 v29 h fun v30 h =>
 CallW Try.prog 42 [(slot l25 36), v30] h fun v31 h =>
 binB False Try.prog .neq 28 true false v31 (Value.int .i64 (0)) h fun v32 h =>
 GuardW (wantV v32 true) (fun K33 =>
 K33 v31 h) h fun v34 h =>
 GuardW (wantV v32 true) (fun K35 =>
 K35 v23 h) h fun v36 h =>
 GuardW (wantV v32 true) (fun K37 =>
 K37 (slot l25 43) h) h fun v38 h =>
 GuardW (wantV v32 true) (fun K39 =>
 indexAddrS False 3 v36 v38 h K39) h fun v40 h =>
 GuardW (wantV v32 true) (fun K41 =>
 fieldAddrB False 2 v40 h K41) h fun v42 h =>
 GuardW (wantV v32 true) (fun K43 =>
 load1 False v42 h K43) h fun v44 h =>
 GuardW (wantV v32 true) (fun K45 =>
 CallW Try.prog 43 [v34, v44] h K45) h fun v46 h =>
 pickB False v32 v46 (Value.bool false) h fun v47 h =>
 CondW v47 (
 κ (Value.bool false) h) (
 rs_7_0 l25 v23 N24 v26 v27 v28 v29 v30 v31 v32 v34 v36 v38 v40 v42 v44 v46 v47 h κ)

noncomputable def rs_7_3 (v18 : Value) (l25 : List Value) (v20 : Value) (v23 : Value) (l5 : List Value) (a0 : Value) (N4 : List Value → Heap → Prop) (v6 : Value) (v7 : Value) (v8 : Value) (v9 : Value) (v10 : Value) (v11 : Value) (v12 : Value) (v19 : Value) (v13 : Value) (v14 : Value) (v15 : Value) (v16 : Value) (v17 : Value) (v22 : Value) (v26 : Value) (v27 : Value) (h : Heap) (κ : Value → Heap → Prop) : Prop :=
 loadA False 2 v18 h fun v64 h =>
 CallW Try.prog 41 [(slot l25 36), v64, v20] h fun v65 h =>
 lenSli False v65 h fun v66 h =>
 binB False Try.prog .neq 3 true false v66 (Value.int .i64 (0)) h fun v67 h =>
 GuardW (wantV v67 false) (fun K68 =>
 K68 v23 h) h fun v69 h =>
 GuardW (wantV v67 false) (fun K70 =>
 lenSli False v69 h K70) h fun v71 h =>
 GuardW (wantV v67 false) (fun K72 =>
 binB False Try.prog .gtr 3 true false v71 (Value.int .i64 (3)) h K72) h fun v73 h =>
 pickB False v67 (Value.bool true) v73 h fun v74 h =>
 CondW v74 (
 κ (Value.bool false) h) (
 LoopR [(slot l5 77), (slot l5 78), (slot l5 79), (slot l5 80), (slot l5 81), (slot l5 82), (slot l5 83), (slot l5 84), (slot l5 85), (slot l5 86), (slot l5 87), (slot l5 88), (slot l5 89), (slot l5 90), (slot l5 91), (slot l5 92), (slot l5 93), (slot l5 94), (slot l25 40), (slot l5 96), (slot l5 97), (Value.int .i64 (0))] h fun l76 h N75 =>
 binB False Try.prog .leq 3 false false (slot l76 21) (slot l5 101) h fun v77 h =>
 CondW v77 (
 rs_7_1 l25 a0 l76 N75 l5 v77 h κ) (
 binB False Try.prog .add 3 true false (slot l5 101) (Value.int .i64 (1)) h fun v94 h =>
 N4 [(slot l5 101), a0, v6, v7, v8, v9, v10, v11, v12, v19, v13, v14, v15, v16, v17, v20, v18, v20, (slot l5 59), v22, v20, v23, v23, (slot l25 43), v23, v26, v27, (slot l25 4), (slot l25 5), (slot l25 6), (slot l25 7), (slot l25 8), (slot l25 9), (slot l25 10), (slot l25 11), (slot l25 12), (slot l25 13), (slot l25 14), (slot l25 15), (slot l25 16), (slot l25 17), (slot l25 18), (slot l25 19), (slot l25 20), (slot l25 21), (slot l25 22), (slot l25 23), (slot l25 24), (slot l25 25), (slot l25 26), (slot l25 27), (slot l25 28), (slot l25 29), (slot l25 30), (slot l25 31), (slot l25 32), (slot l25 33), (slot l25 34), (slot l25 35), (slot l25 36), (slot l25 37), (slot l25 38), (slot l25 39), (slot l25 41), (slot l25 42), (slot l25 43), (slot l25 36), v64, v20, v65, v66, v67, v67, v69, v71, v73, v74, (slot l76 21), (slot l5 101), v77, (slot l76 3), (slot l76 4), (slot l76 5), (slot l76 6), (slot l76 7), (slot l76 8), (slot l76 9), (slot l76 10), (slot l76 11), (slot l76 12), (slot l76 13), (slot l76 14), (slot l76 15), (slot l76 16), (slot l76 17), (slot l76 18), (slot l76 19), (slot l76 20), (slot l76 21), (slot l5 101), v94, v94] h))

noncomputable def rs_7_4 (a0 : Value) (l5 : List Value) (N4 : List Value → Heap → Prop) (v6 : Value) (v7 : Value) (h : Heap) (κ : Value → Heap → Prop) : Prop :=
 RdK (some a0) h fun v8 h =>
 RdK (some (slot l5 101)) h fun v9 h =>
 RdK (indexAddrS none 2 v8 v9 h fun v _ => some v) h fun v10 h =>
 RdK (fieldAddrB none 0 v10 h fun v _ => some v) h fun v11 h =>
 RdK (load1 none v11 h fun v _ => some v) h fun v12 h =>
 RdK (some a0) h fun v13 h =>
 RdK (some (slot l5 101)) h fun v14 h =>
 RdK (indexAddrS none 2 v13 v14 h fun v _ => some v) h fun v15 h =>
 RdK (fieldAddrB none 1 v15 h fun v _ => some v) h fun v16 h =>
 RdK (load1 none v16 h fun v _ => some v) h fun v17 h =>
 AlK (cellsK none [(Value.int .i64 (0)), (Value.int .i64 (0))] 27 false fun o => some (o, ptrTo)) h fun v18 h =>
 CallW Try.prog 39 [v12] h fun v19 h =>
 SameK ((reV (some a0) v13) && ((reV (some (slot l5 101)) v14) && ((reV (indexAddrS none 2 v13 v14 h fun v _ => some v) v15) && ((reV (fieldAddrB none 1 v15 h fun v _ => some v) v16) && ((reV (load1 none v16 h fun v _ => some v) v17) && true))))) (CallW Try.prog 40 [v17] h fun v20 h =>
 storeV False 2 v18 v19 h fun v21 h =>
 loadA False 2 v18 h fun v22 h =>
 CallW Try.prog 41 [(slot l5 59), v22, v20] h fun v23 h =>
 LoopR [(slot l5 23), (slot l5 24), (slot l5 25), (slot l5 26), (slot l5 27), (slot l5 28), (slot l5 29), (slot l5 30), (slot l5 31), (slot l5 32), (slot l5 33), (slot l5 34), (slot l5 35), (slot l5 36), (slot l5 37), (slot l5 38), (slot l5 39), (slot l5 40), (slot l5 41), (slot l5 42), (slot l5 43), (slot l5 44), (slot l5 45), (slot l5 46), (slot l5 47), (slot l5 48), (slot l5 49), (slot l5 50), (slot l5 51), (slot l5 52), (slot l5 53), (slot l5 54), (slot l5 55), (slot l5 56), (slot l5 57), (slot l5 58), (slot l5 59), (slot l5 60), (slot l5 61), (slot l5 62), (slot l5 95), (slot l5 63), (slot l5 64), (Value.int .i64 (0))] h fun l25 h N24 =>
 lenSli False v23 h fun v26 h =>
 binB False Try.prog .lss 3 false false (slot l25 43) v26 h fun v27 h =>
 CondW v27 (
 rs_7_2 v23 l25 N24 v26 v27 h κ) (
 rs_7_3 v18 l25 v20 v23 l5 a0 N4 v6 v7 v8 v9 v10 v11 v12 v19 v13 v14 v15 v16 v17 v22 v26 v27 h κ))

noncomputable def rs_7_5 (a0 : Value) (h : Heap) (κ : Value → Heap → Prop) : Prop :=
 lenSli False a0 h fun v2 h =>
 binB False Try.prog .gtr 3 true false v2 (Value.int .i64 (30)) h fun v3 h =>
 CondW v3 (
 κ (Value.bool true) h) (
 LoopR [undef, undef, undef, undef, undef, undef, undef, undef, undef, undef, undef, undef, undef, undef, undef, undef, undef, undef, undef, undef, undef, undef, undef, undef, undef, undef, undef, undef, undef, undef, undef, undef, undef, undef, undef, undef, undef, undef, undef, undef, undef, undef, undef, undef, undef, undef, undef, undef, undef, undef, undef, undef, undef, undef, undef, undef, undef, undef, undef, (Value.slice none 0 0), undef, undef, undef, undef, undef, undef, undef, undef, undef, undef, undef, undef, undef, undef, undef, undef, undef, undef, undef, undef, undef, undef, undef, undef, undef, undef, undef, undef, undef, undef, undef, undef, undef, undef, undef, (Value.bool false), undef, undef, undef, undef, undef, (Value.int .i64 (0))] h fun l5 h N4 =>
 lenSli False a0 h fun v6 h =>
 binB False Try.prog .lss 3 false false (slot l5 101) v6 h fun v7 h =>
 CondW v7 (
 rs_7_4 a0 l5 N4 v6 v7 h κ) (
 κ (Value.bool true) h))

/-- latchstring/latchstringlaw17.CachePlans -/
theorem rs_7 (a0 : Value) (h : Heap) (κ : Value → Heap → Prop) : BodyW Try.prog 7 [a0] h κ = (
 CallW Try.prog 38 [] h fun v0 h =>
 unB False .not v0 h fun v1 h =>
 CondW v1 (
 κ (Value.bool false) h) (
 rs_7_5 a0 h κ)) := by kernel_rfl

noncomputable def rs_8_0 (l52 : List Value) (v45 : Value) (v46 : Value) (l48 : List Value) (N51 : List Value → Heap → Prop) (v53 : Value) (v54 : Value) (h : Heap) : Prop :=
 RdK (some (slot l52 18)) h fun v55 h =>
 RdK (some v55) h fun v56 h =>
 GuardW (wantV v56 false) (fun K57 =>
 RdK (some v45) h K57) h fun v58 h =>
 GuardW (wantV v56 false) (fun K59 =>
 RdK (some (slot l52 21)) h K59) h fun v60 h =>
 GuardW (wantV v56 false) (fun K61 =>
 RdK (indexAddrS none 3 v58 v60 h fun v _ => some v) h K61) h fun v62 h =>
 GuardW (wantV v56 false) (fun K63 =>
 RdK (fieldAddrB none 0 v62 h fun v _ => some v) h K63) h fun v64 h =>
 GuardW (wantV v56 false) (fun K65 =>
 RdK (loadA none 2 v64 h fun v _ => some v) h K65) h fun v66 h =>
 GuardW (wantV v56 false) (fun K67 =>
 RdK (some v46) h K67) h fun v68 h =>
 GuardW (wantV v56 false) (fun K69 =>
 RdK (some (slot l48 31)) h K69) h fun v70 h =>
 GuardW (wantV v56 false) (fun K71 =>
 RdK (indexAddrS none 3 v68 v70 h fun v _ => some v) h K71) h fun v72 h =>
 GuardW (wantV v56 false) (fun K73 =>
 RdK (fieldAddrB none 0 v72 h fun v _ => some v) h K73) h fun v74 h =>
 GuardW (wantV v56 false) (fun K75 =>
 RdK (loadA none 2 v74 h fun v _ => some v) h K75) h fun v76 h =>
 GuardW (wantV v56 false) (fun K77 =>
 RdK (binB none Try.prog .eql 27 false false v66 v76 h fun v _ => some v) h K77) h fun v78 h =>
 RdK (pickB none v56 (Value.bool true) v78 h fun v _ => some v) h fun v79 h =>
 binB False Try.prog .add 3 true false (slot l52 21) (Value.int .i64 (1)) h fun v80 h =>
 N51 [(slot l52 21), v45, v53, v54, v55, v56, v58, v60, v62, v64, v66, v68, v70, v72, v74, v76, v78, v79, v79, (slot l52 21), v80, v80] h

noncomputable def rs_8_1 (v45 : Value) (l52 : List Value) (v46 : Value) (l48 : List Value) (N51 : List Value → Heap → Prop) (N47 : List Value → Heap → Prop) (v49 : Value) (v50 : Value) (h : Heap) (κ : Value → Heap → Prop) : Prop :=
 lenSli False v45 h fun v53 h =>
 binB False Try.prog .lss 3 false false (slot l52 21) v53 h fun v54 h =>
 CondW v54 (
 rs_8_0 l52 v45 v46 l48 N51 v53 v54 h) (
 unB False .not (slot l52 18) h fun v81 h =>
 CondW v81 (
 κ (Value.bool false) h) (
 binB False Try.prog .add 3 true false (slot l48 31) (Value.int .i64 (1)) h fun v82 h =>
 N47 [(slot l48 31), v46, v49, v50, (slot l52 21), v45, v53, v54, (slot l52 4), (slot l52 5), (slot l52 6), (slot l52 7), (slot l52 8), (slot l52 9), (slot l52 10), (slot l52 11), (slot l52 12), (slot l52 13), (slot l52 14), (slot l52 15), (slot l52 16), (slot l52 17), (slot l52 18), (slot l52 19), (slot l52 20), (slot l52 21), (slot l52 18), v81, (slot l48 28), (slot l48 31), v82, v82] h))

noncomputable def rs_8_2 (l9 : List Value) (l93 : List Value) (v22 : Value) (v89 : Value) (v91 : Value) (N92 : List Value → Heap → Prop) (v94 : Value) (v95 : Value) (h : Heap) (κ : Value → Heap → Prop) : Prop :=
 indexAddrS False 4 (slot l9 10) (slot l93 38) h fun v96 h =>
 fieldAddrB False 1 v96 h fun v97 h =>
 loadA False 2 v97 h fun v98 h =>
 cellsK False [(Value.int .i64 (0)), (Value.int .i64 (0))] 27 false fun o99 => newBlock False o99 h fun b100 h =>
 storeV False 2 (ptrTo b100) v98 h fun v101 h =>
 RdK (loadA none 2 (ptrTo b100) h fun v _ => some v) h fun v102 h =>
 RdK (loadA none 2 v22 h fun v _ => some v) h fun v103 h =>
 RdK (binB none Try.prog .neq 27 false false v102 v103 h fun v _ => some v) h fun v104 h =>
 RdK (some v104) h fun v105 h =>
 GuardW (wantV v105 true) (fun K106 =>
 RdK (some v89) h K106) h fun v107 h =>
 GuardW (wantV v105 true) (fun K108 =>
 RdK (loadA none 2 (ptrTo b100) h fun v _ => some v) h K108) h fun v109 h =>
 GuardW (wantV v105 true) (fun K110 =>
 RdK (some (slot l9 10)) h K110) h fun v111 h =>
 GuardW (wantV v105 true) (fun K112 =>
 RdK (some (slot l93 38)) h K112) h fun v113 h =>
 GuardW (wantV v105 true) (fun K114 =>
 RdK (indexAddrS none 4 v111 v113 h fun v _ => some v) h K114) h fun v115 h =>
 GuardW (wantV v105 true) (fun K116 =>
 RdK (fieldAddrB none 3 v115 h fun v _ => some v) h K116) h fun v117 h =>
 GuardW (wantV v105 true) (fun K118 =>
 RdK (load1 none v117 h fun v _ => some v) h K118) h fun v119 h =>
 GuardW (wantV v105 true) (fun K120 =>
 CallW Try.prog 42 [v107, v109] h fun v121 h =>
 SameK ((reG (wantV v105 true) (reV (some (slot l9 10)) v111)) && ((reG (wantV v105 true) (reV (some (slot l93 38)) v113)) && ((reG (wantV v105 true) (reV (indexAddrS none 4 v111 v113 h fun v _ => some v) v115)) && ((reG (wantV v105 true) (reV (fieldAddrB none 3 v115 h fun v _ => some v) v117)) && ((reG (wantV v105 true) (reV (load1 none v117 h fun v _ => some v) v119)) && true))))) (K120 v121 h)) h fun v122 h =>
 GuardW (wantV v105 true) (fun K123 =>
 RdK (binB none Try.prog .neq 28 false false v122 v119 h fun v _ => some v) h K123) h fun v124 h =>
 GuardW (wantV v105 true) (fun K125 =>
 RdK (some v124) h K125) h fun v126 h =>
 GuardW (wantV v126 false) (fun K127 =>
 RdK (some v91) h K127) h fun v128 h =>
 GuardW (wantV v126 false) (fun K129 =>
 RdK (loadA none 2 (ptrTo b100) h fun v _ => some v) h K129) h fun v130 h =>
 GuardW (wantV v126 false) (fun K131 =>
 RdK (some (slot l9 10)) h K131) h fun v132 h =>
 GuardW (wantV v126 false) (fun K133 =>
 RdK (some (slot l93 38)) h K133) h fun v134 h =>
 GuardW (wantV v126 false) (fun K135 =>
 RdK (indexAddrS none 4 v132 v134 h fun v _ => some v) h K135) h fun v136 h =>
 GuardW (wantV v126 false) (fun K137 =>
 RdK (fieldAddrB none 3 v136 h fun v _ => some v) h K137) h fun v138 h =>
 GuardW (wantV v126 false) (fun K139 =>
 RdK (load1 none v138 h fun v _ => some v) h K139) h fun v140 h =>
 GuardW (wantV v126 false) (fun K141 =>
 CallW Try.prog 42 [v128, v130] h fun v142 h =>
 SameK ((reG (wantV v126 false) (reV (some (slot l9 10)) v132)) && ((reG (wantV v126 false) (reV (some (slot l93 38)) v134)) && ((reG (wantV v126 false) (reV (indexAddrS none 4 v132 v134 h fun v _ => some v) v136)) && ((reG (wantV v126 false) (reV (fieldAddrB none 3 v136 h fun v _ => some v) v138)) && ((reG (wantV v126 false) (reV (load1 none v138 h fun v _ => some v) v140)) && true))))) (K141 v142 h)) h fun v143 h =>
 GuardW (wantV v126 false) (fun K144 =>
 RdK (binB none Try.prog .neq 28 false false v143 v140 h fun v _ => some v) h K144) h fun v145 h =>
 GuardW (wantV v105 true) (fun K146 =>
 RdK (pickB none v126 (Value.bool true) v145 h fun v _ => some v) h K146) h fun v147 h =>
 RdK (pickB none v105 v147 (Value.bool false) h fun v _ => some v) h fun v148 h =>
 CondW v148 (
 κ (Value.bool false) h) (
 binB False Try.prog .add 3 true false (slot l93 38) (Value.int .i64 (1)) h fun v149 h =>
 N92 [(slot l93 38), (slot l9 10), v94, v95, (slot l9 10), (slot l93 38), v96, v97, v98, (ptrTo b100), v102, v103, v104, v105, v107, v109, v122, v111, v113, v115, v117, v119, v124, v126, v128, v130, v143, v132, v134, v136, v138, v140, v145, v147, v148, (slot l93 35), (slot l93 38), v149, v149] h)

noncomputable def rs_8_3 (v22 : Value) (v89 : Value) (v24 : Value) (v91 : Value) (l9 : List Value) (h : Heap) (κ : Value → Heap → Prop) : Prop :=
 loadA False 2 v22 h fun v150 h =>
 CallW Try.prog 42 [v89, v150] h fun v151 h =>
 binB False Try.prog .eql 28 false false v151 v24 h fun v152 h =>
 GuardW (wantV v152 true) (fun K153 =>
 K153 v91 h) h fun v154 h =>
 GuardW (wantV v152 true) (fun K155 =>
 loadA False 2 v22 h K155) h fun v156 h =>
 GuardW (wantV v152 true) (fun K157 =>
 CallW Try.prog 42 [v154, v156] h K157) h fun v158 h =>
 GuardW (wantV v152 true) (fun K159 =>
 binB False Try.prog .eql 28 true false v158 (Value.int .i64 (0)) h K159) h fun v160 h =>
 pickB False v152 v160 (Value.bool false) h fun v161 h =>
 GuardW (wantV v161 true) (fun K162 =>
 K162 v89 h) h fun v163 h =>
 GuardW (wantV v161 true) (fun K164 =>
 lenSli False v163 h K164) h fun v165 h =>
 GuardW (wantV v161 true) (fun K166 =>
 K166 (slot l9 10) h) h fun v167 h =>
 GuardW (wantV v161 true) (fun K168 =>
 lenSli False v167 h K168) h fun v169 h =>
 GuardW (wantV v161 true) (fun K170 =>
 binB False Try.prog .eql 3 false false v165 v169 h K170) h fun v171 h =>
 GuardW (wantV v161 true) (fun K172 =>
 K172 (slot l9 10) h) h fun v173 h =>
 GuardW (wantV v161 true) (fun K174 =>
 loadA False 2 v22 h K174) h fun v175 h =>
 GuardW (wantV v161 true) (fun K176 =>
 CallW Try.prog 42 [v173, v175] h K176) h fun v177 h =>
 GuardW (wantV v161 true) (fun K178 =>
 binB False Try.prog .neq 28 true false v177 (Value.int .i64 (0)) h K178) h fun v179 h =>
 GuardW (wantV v161 true) (fun K180 =>
 binB False Try.prog .eql 4 false false v171 v179 h K180) h fun v181 h =>
 pickB False v161 v181 (Value.bool false) h fun v182 h =>
 GuardW (wantV v182 true) (fun K183 =>
 K183 v24 h) h fun v184 h =>
 GuardW (wantV v182 true) (fun K185 =>
 CallW Try.prog 49 [v184] h K185) h fun v186 h =>
 pickB False v182 v186 (Value.bool false) h fun v187 h =>
 κ v187 h

noncomputable def rs_8_4 (v22 : Value) (v24 : Value) (l9 : List Value) (l48 : List Value) (h : Heap) (κ : Value → Heap → Prop) : Prop :=
 loadA False 2 v22 h fun v83 h =>
 fillB False [(0, 1), (1, 2), (3, 1)] [(Value.int .i64 (1)), v83, v24] [(Value.int .i64 (0)), (Value.int .i64 (0)), (Value.int .i64 (0)), (Value.int .i64 (0))] fun cs84 =>
 cellsK False [(Value.int .i64 (0)), (Value.int .i64 (0)), (Value.int .i64 (0)), (Value.int .i64 (0))] 30 false fun o85 => newBlock False o85 h fun b86 h =>
 storeV False 4 (ptrTo b86) (Value.agg (Array.mk cs84)) h fun v87 h =>
 loadA False 4 (ptrTo b86) h fun v88 h =>
 CallW Try.prog 44 [(slot l9 10), v88] h fun v89 h =>
 loadA False 2 v22 h fun v90 h =>
 CallW Try.prog 48 [v89, v90] h fun v91 h =>
 LoopR [undef, undef, undef, undef, undef, undef, undef, undef, undef, undef, undef, undef, undef, undef, undef, undef, undef, undef, undef, undef, undef, undef, undef, undef, undef, undef, undef, undef, undef, undef, undef, undef, undef, undef, undef, (slot l48 28), undef, undef, (Value.int .i64 (0))] h fun l93 h N92 =>
 lenSli False (slot l9 10) h fun v94 h =>
 binB False Try.prog .lss 3 false false (slot l93 38) v94 h fun v95 h =>
 CondW v95 (
 rs_8_2 l9 l93 v22 v89 v91 N92 v94 v95 h κ) (
 rs_8_3 v22 v89 v24 v91 l9 h κ)

noncomputable def rs_8_5 (l9 : List Value) (v22 : Value) (v24 : Value) (v17 : Value) (h : Heap) (κ : Value → Heap → Prop) : Prop :=
 RdK (some (slot l9 10)) h fun v39 h =>
 RdK (loadA none 2 v22 h fun v _ => some v) h fun v40 h =>
 RdK (some v24) h fun v41 h =>
 RdK (some v17) h fun v42 h =>
 RdK (loadA none 2 v22 h fun v _ => some v) h fun v43 h =>
 RdK (some v24) h fun v44 h =>
 CallW Try.prog 41 [v39, v40, v41] h fun v45 h =>
 SameK ((reV (some v17) v42) && ((reV (loadA none 2 v22 h fun v _ => some v) v43) && ((reV (some v24) v44) && true))) (CallW Try.prog 41 [v42, v43, v44] h fun v46 h =>
 LoopR [undef, undef, undef, undef, undef, undef, undef, undef, undef, undef, undef, undef, undef, undef, undef, undef, undef, undef, undef, undef, undef, undef, undef, undef, undef, undef, undef, undef, (Value.bool false), undef, undef, (Value.int .i64 (0))] h fun l48 h N47 =>
 lenSli False v46 h fun v49 h =>
 binB False Try.prog .lss 3 false false (slot l48 31) v49 h fun v50 h =>
 CondW v50 (
 LoopR [(slot l48 4), (slot l48 5), (slot l48 6), (slot l48 7), (slot l48 8), (slot l48 9), (slot l48 10), (slot l48 11), (slot l48 12), (slot l48 13), (slot l48 14), (slot l48 15), (slot l48 16), (slot l48 17), (slot l48 18), (slot l48 19), (slot l48 20), (slot l48 21), (Value.bool false), (slot l48 23), (slot l48 24), (Value.int .i64 (0))] h fun l52 h N51 =>
 rs_8_1 v45 l52 v46 l48 N51 N47 v49 v50 h κ) (
 rs_8_4 v22 v24 l9 l48 h κ))

noncomputable def rs_8_6 (b1 : Nat) (l9 : List Value) (b3 : Nat) (h : Heap) (κ : Value → Heap → Prop) : Prop :=
 loadA False 2 (ptrTo b1) h fun v16 h =>
 CallW Try.prog 47 [(slot l9 10), v16] h fun v17 h =>
 RdK (fieldAddrB none 0 (ptrTo b3) h fun v _ => some v) h fun v18 h =>
 RdK (load1 none v18 h fun v _ => some v) h fun v19 h =>
 RdK (fieldAddrB none 1 (ptrTo b3) h fun v _ => some v) h fun v20 h =>
 RdK (load1 none v20 h fun v _ => some v) h fun v21 h =>
 AlK (cellsK none [(Value.int .i64 (0)), (Value.int .i64 (0))] 27 false fun o => some (o, ptrTo)) h fun v22 h =>
 CallW Try.prog 39 [v19] h fun v23 h =>
 SameK ((reV (fieldAddrB none 1 (ptrTo b3) h fun v _ => some v) v20) && ((reV (load1 none v20 h fun v _ => some v) v21) && true)) (CallW Try.prog 40 [v21] h fun v24 h =>
 storeV False 2 v22 v23 h fun v25 h =>
 loadA False 2 v22 h fun v26 h =>
 CallW Try.prog 46 [(slot l9 10), v26, v24] h fun v27 h =>
 GuardW (wantV v27 true) (fun K28 =>
 K28 v17 h) h fun v29 h =>
 GuardW (wantV v27 true) (fun K30 =>
 loadA False 2 v22 h K30) h fun v31 h =>
 GuardW (wantV v27 true) (fun K32 =>
 K32 v24 h) h fun v33 h =>
 GuardW (wantV v27 true) (fun K34 =>
 CallW Try.prog 46 [v29, v31, v33] h K34) h fun v35 h =>
 GuardW (wantV v27 true) (fun K36 =>
 unB False .not v35 h K36) h fun v37 h =>
 pickB False v27 v37 (Value.bool false) h fun v38 h =>
 CondW v38 (
 κ (Value.bool false) h) (
 rs_8_5 l9 v22 v24 v17 h κ))

noncomputable def rs_8_7 (a0 : Value) (l9 : List Value) (N8 : List Value → Heap → Prop) (b1 : Nat) (b3 : Nat) (h : Heap) (κ : Value → Heap → Prop) : Prop :=
 lenSli False a0 h fun v10 h =>
 binB False Try.prog .lss 3 false false (slot l9 13) v10 h fun v11 h =>
 CondW v11 (
 indexAddrS False 2 a0 (slot l9 13) h fun v12 h =>
 loadA False 2 v12 h fun v13 h =>
 CallW Try.prog 47 [(slot l9 10), v13] h fun v14 h =>
 binB False Try.prog .add 3 true false (slot l9 13) (Value.int .i64 (1)) h fun v15 h =>
 N8 [(slot l9 13), a0, v10, v11, (slot l9 10), a0, (slot l9 13), v12, v13, v14, v14, (slot l9 13), v15, v15] h) (
 rs_8_6 b1 l9 b3 h κ)

/-- latchstring/latchstringlaw17.CacheMore -/
theorem rs_8 (a0 a1 a2 : Value) (h : Heap) (κ : Value → Heap → Prop) : BodyW Try.prog 8 [a0, a1, a2] h κ = (
 cellsK False (Value.cells a1).toList 64 false fun o0 => newBlock False o0 h fun b1 h =>
 cellsK False (Value.cells a2).toList 64 false fun o2 => newBlock False o2 h fun b3 h =>
 CallW Try.prog 38 [] h fun v4 h =>
 unB False .not v4 h fun v5 h =>
 CondW v5 (
 κ (Value.bool false) h) (
 lenSli False a0 h fun v6 h =>
 binB False Try.prog .gtr 3 true false v6 (Value.int .i64 (20)) h fun v7 h =>
 CondW v7 (
 κ (Value.bool true) h) (
 LoopR [undef, undef, undef, undef, undef, undef, undef, undef, undef, undef, (Value.slice none 0 0), undef, undef, (Value.int .i64 (0))] h fun l9 h N8 =>
 rs_8_7 a0 l9 N8 b1 b3 h κ))) := by kernel_rfl

noncomputable def rs_9_0 (l23 : List Value) (v21 : Value) (N22 : List Value → Heap → Prop) (v24 : Value) (v25 : Value) (h : Heap) : Prop :=
 RdK (some (slot l23 17)) h fun v26 h =>
 RdK (some v21) h fun v27 h =>
 RdK (some (slot l23 20)) h fun v28 h =>
 RdK (indexAddrS none 3 v27 v28 h fun v _ => some v) h fun v29 h =>
 RdK (fieldAddrB none 0 v29 h fun v _ => some v) h fun v30 h =>
 RdK (loadA none 2 v30 h fun v _ => some v) h fun v31 h =>
 RdK (some v21) h fun v32 h =>
 RdK (some (slot l23 20)) h fun v33 h =>
 RdK (indexAddrS none 3 v32 v33 h fun v _ => some v) h fun v34 h =>
 RdK (fieldAddrB none 2 v34 h fun v _ => some v) h fun v35 h =>
 RdK (load1 none v35 h fun v _ => some v) h fun v36 h =>
 RdK (fillB none [(0, 1), (1, 2), (3, 1)] [(Value.int .i64 (1)), v31, v36] [(Value.int .i64 (0)), (Value.int .i64 (0)), (Value.int .i64 (0)), (Value.int .i64 (0))] fun cs => some (Value.agg (Array.mk cs))) h fun v37 h =>
 CallW Try.prog 51 [v26, v37] h fun v38 h =>
 binB False Try.prog .add 3 true false (slot l23 20) (Value.int .i64 (1)) h fun v39 h =>
 N22 [(slot l23 20), v21, v24, v25, v26, v27, v28, v29, v30, v31, v32, v33, v34, v35, v36, v37, v38, v38, (slot l23 20), v39, v39] h

noncomputable def rs_9_1 (v41 : Value) (l46 : List Value) (N45 : List Value → Heap → Prop) (v47 : Value) (v48 : Value) (v49 : Value) (v50 : Value) (v51 : Value) (v53 : Value) (v55 : Value) (v57 : Value) (v59 : Value) (v61 : Value) (v63 : Value) (v76 : Value) (v65 : Value) (v67 : Value) (v69 : Value) (v71 : Value) (v73 : Value) (v78 : Value) (v80 : Value) (v82 : Value) (v84 : Value) (v86 : Value) (v88 : Value) (v90 : Value) (v92 : Value) (v94 : Value) (v107 : Value) (v96 : Value) (v98 : Value) (v100 : Value) (v102 : Value) (v104 : Value) (v109 : Value) (v111 : Value) (v113 : Value) (v115 : Value) (v117 : Value) (v119 : Value) (v121 : Value) (v123 : Value) (v125 : Value) (v127 : Value) (v129 : Value) (v131 : Value) (v133 : Value) (v135 : Value) (v137 : Value) (v139 : Value) (v141 : Value) (v143 : Value) (v144 : Value) (v145 : Value) (v146 : Value) (v147 : Value) (v148 : Value) (v149 : Value) (v150 : Value) (v151 : Value) (v152 : Value) (v154 : Value) (v156 : Value) (v158 : Value) (v160 : Value) (v162 : Value) (v164 : Value) (v177 : Value) (v166 : Value) (v168 : Value) (v170 : Value) (v172 : Value) (v174 : Value) (v179 : Value) (v180 : Value) (h : Heap) (κ : Value → Heap → Prop) : Prop :=
 indexAddrS False 4 v41 (slot l46 89) h fun v181 h =>
 fieldAddrB False 1 v181 h fun v182 h =>
 loadA False 2 v182 h fun v183 h =>
 CallW Try.prog 48 [(slot l46 82), v183] h fun v184 h =>
 CallW Try.prog 45 [v184] h fun v185 h =>
 unB False .not v185 h fun v186 h =>
 CondW v186 (
 κ (Value.bool false) h) (
 binB False Try.prog .add 3 true false (slot l46 89) (Value.int .i64 (1)) h fun v187 h =>
 N45 [(slot l46 89), v41, v47, v48, v49, v50, v51, v53, v55, v57, v59, v61, v63, v76, v65, v67, v69, v71, v73, v78, v80, v82, v84, v86, v88, v90, v92, v94, v107, v96, v98, v100, v102, v104, v109, v111, v113, v115, v117, v119, v121, v123, v125, v127, v129, v131, v133, v135, v137, v139, v141, v143, v144, v145, v146, v147, v148, v149, v150, v151, v152, v154, v156, v158, v160, v162, v164, v177, v166, v168, v170, v172, v174, v179, v180, (slot l46 82), v41, (slot l46 89), v181, v182, v183, v184, v184, v184, v185, v186, (slot l46 86), (slot l46 89), v187, v187] h)

noncomputable def rs_9_2 (l46 : List Value) (v41 : Value) (N45 : List Value → Heap → Prop) (v47 : Value) (v48 : Value) (v49 : Value) (v50 : Value) (v51 : Value) (v53 : Value) (v55 : Value) (v57 : Value) (v59 : Value) (v61 : Value) (v63 : Value) (v76 : Value) (v65 : Value) (v67 : Value) (v69 : Value) (v71 : Value) (v73 : Value) (v78 : Value) (v80 : Value) (v82 : Value) (v84 : Value) (v86 : Value) (v88 : Value) (v90 : Value) (v92 : Value) (v94 : Value) (v107 : Value) (v96 : Value) (v98 : Value) (v100 : Value) (v102 : Value) (v104 : Value) (v109 : Value) (v111 : Value) (v113 : Value) (v115 : Value) (v117 : Value) (v119 : Value) (v121 : Value) (v123 : Value) (v125 : Value) (v127 : Value) (v129 : Value) (v131 : Value) (v133 : Value) (v135 : Value) (v137 : Value) (v139 : Value) (v141 : Value) (v143 : Value) (v144 : Value) (h : Heap) (κ : Value → Heap → Prop) : Prop :=
 RdK (some (slot l46 82)) h fun v145 h =>
 RdK (some v41) h fun v146 h =>
 RdK (some (slot l46 89)) h fun v147 h =>
 RdK (indexAddrS none 4 v146 v147 h fun v _ => some v) h fun v148 h =>
 RdK (fieldAddrB none 1 v148 h fun v _ => some v) h fun v149 h =>
 RdK (loadA none 2 v149 h fun v _ => some v) h fun v150 h =>
 CallW Try.prog 54 [v145, v150] h fun v151 h =>
 RdK (some v151) h fun v152 h =>
 GuardW (wantV v152 false) (fun K153 =>
 RdK (some (slot l46 82)) h K153) h fun v154 h =>
 GuardW (wantV v152 false) (fun K155 =>
 RdK (some v41) h K155) h fun v156 h =>
 GuardW (wantV v152 false) (fun K157 =>
 RdK (some (slot l46 89)) h K157) h fun v158 h =>
 GuardW (wantV v152 false) (fun K159 =>
 RdK (indexAddrS none 4 v156 v158 h fun v _ => some v) h K159) h fun v160 h =>
 GuardW (wantV v152 false) (fun K161 =>
 RdK (fieldAddrB none 1 v160 h fun v _ => some v) h K161) h fun v162 h =>
 GuardW (wantV v152 false) (fun K163 =>
 RdK (loadA none 2 v162 h fun v _ => some v) h K163) h fun v164 h =>
 GuardW (wantV v152 false) (fun K165 =>
 RdK (some v41) h K165) h fun v166 h =>
 GuardW (wantV v152 false) (fun K167 =>
 RdK (some (slot l46 89)) h K167) h fun v168 h =>
 GuardW (wantV v152 false) (fun K169 =>
 RdK (indexAddrS none 4 v166 v168 h fun v _ => some v) h K169) h fun v170 h =>
 GuardW (wantV v152 false) (fun K171 =>
 RdK (fieldAddrB none 3 v170 h fun v _ => some v) h K171) h fun v172 h =>
 GuardW (wantV v152 false) (fun K173 =>
 RdK (load1 none v172 h fun v _ => some v) h K173) h fun v174 h =>
 GuardW (wantV v152 false) (fun K175 =>
 CallW Try.prog 42 [v154, v164] h fun v176 h =>
 SameK ((reG (wantV v152 false) (reV (some v41) v166)) && ((reG (wantV v152 false) (reV (some (slot l46 89)) v168)) && ((reG (wantV v152 false) (reV (indexAddrS none 4 v166 v168 h fun v _ => some v) v170)) && ((reG (wantV v152 false) (reV (fieldAddrB none 3 v170 h fun v _ => some v) v172)) && ((reG (wantV v152 false) (reV (load1 none v172 h fun v _ => some v) v174)) && true))))) (K175 v176 h)) h fun v177 h =>
 GuardW (wantV v152 false) (fun K178 =>
 RdK (binB none Try.prog .neq 28 false false v177 v174 h fun v _ => some v) h K178) h fun v179 h =>
 RdK (pickB none v152 (Value.bool true) v179 h fun v _ => some v) h fun v180 h =>
 CondW v180 (
 κ (Value.bool false) h) (
 rs_9_1 v41 l46 N45 v47 v48 v49 v50 v51 v53 v55 v57 v59 v61 v63 v76 v65 v67 v69 v71 v73 v78 v80 v82 v84 v86 v88 v90 v92 v94 v107 v96 v98 v100 v102 v104 v109 v111 v113 v115 v117 v119 v121 v123 v125 v127 v129 v131 v133 v135 v137 v139 v141 v143 v144 v145 v146 v147 v148 v149 v150 v151 v152 v154 v156 v158 v160 v162 v164 v177 v166 v168 v170 v172 v174 v179 v180 h κ)

noncomputable def rs_9_3 (l46 : List Value) (v41 : Value) (N45 : List Value → Heap → Prop) (v47 : Value) (v48 : Value) (h : Heap) (κ : Value → Heap → Prop) : Prop :=
 RdK (some (slot l46 89)) h fun v49 h =>
 RdK (binB none Try.prog .gtr 3 true false v49 (Value.int .i64 (0)) h fun v _ => some v) h fun v50 h =>
 RdK (some v50) h fun v51 h =>
 GuardW (wantV v51 true) (fun K52 =>
 RdK (some v41) h K52) h fun v53 h =>
 GuardW (wantV v51 true) (fun K54 =>
 RdK (some (slot l46 89)) h K54) h fun v55 h =>
 GuardW (wantV v51 true) (fun K56 =>
 RdK (binB none Try.prog .sub 3 true false v55 (Value.int .i64 (1)) h fun v _ => some v) h K56) h fun v57 h =>
 GuardW (wantV v51 true) (fun K58 =>
 RdK (indexAddrS none 4 v53 v57 h fun v _ => some v) h K58) h fun v59 h =>
 GuardW (wantV v51 true) (fun K60 =>
 RdK (fieldAddrB none 1 v59 h fun v _ => some v) h K60) h fun v61 h =>
 GuardW (wantV v51 true) (fun K62 =>
 RdK (loadA none 2 v61 h fun v _ => some v) h K62) h fun v63 h =>
 GuardW (wantV v51 true) (fun K64 =>
 RdK (some v41) h K64) h fun v65 h =>
 GuardW (wantV v51 true) (fun K66 =>
 RdK (some (slot l46 89)) h K66) h fun v67 h =>
 GuardW (wantV v51 true) (fun K68 =>
 RdK (indexAddrS none 4 v65 v67 h fun v _ => some v) h K68) h fun v69 h =>
 GuardW (wantV v51 true) (fun K70 =>
 RdK (fieldAddrB none 1 v69 h fun v _ => some v) h K70) h fun v71 h =>
 GuardW (wantV v51 true) (fun K72 =>
 RdK (loadA none 2 v71 h fun v _ => some v) h K72) h fun v73 h =>
 GuardW (wantV v51 true) (fun K74 =>
 CallW Try.prog 53 [v63] h fun v75 h =>
 SameK ((reG (wantV v51 true) (reV (some v41) v65)) && ((reG (wantV v51 true) (reV (some (slot l46 89)) v67)) && ((reG (wantV v51 true) (reV (indexAddrS none 4 v65 v67 h fun v _ => some v) v69)) && ((reG (wantV v51 true) (reV (fieldAddrB none 1 v69 h fun v _ => some v) v71)) && ((reG (wantV v51 true) (reV (loadA none 2 v71 h fun v _ => some v) v73)) && true))))) (K74 v75 h)) h fun v76 h =>
 GuardW (wantV v51 true) (fun K77 =>
 CallW Try.prog 53 [v73] h K77) h fun v78 h =>
 GuardW (wantV v51 true) (fun K79 =>
 RdK (binB none Try.prog .lss 3 false false v76 v78 h fun v _ => some v) h K79) h fun v80 h =>
 GuardW (wantV v51 true) (fun K81 =>
 RdK (some v80) h K81) h fun v82 h =>
 GuardW (wantV v82 false) (fun K83 =>
 RdK (some v41) h K83) h fun v84 h =>
 GuardW (wantV v82 false) (fun K85 =>
 RdK (some (slot l46 89)) h K85) h fun v86 h =>
 GuardW (wantV v82 false) (fun K87 =>
 RdK (binB none Try.prog .sub 3 true false v86 (Value.int .i64 (1)) h fun v _ => some v) h K87) h fun v88 h =>
 GuardW (wantV v82 false) (fun K89 =>
 RdK (indexAddrS none 4 v84 v88 h fun v _ => some v) h K89) h fun v90 h =>
 GuardW (wantV v82 false) (fun K91 =>
 RdK (fieldAddrB none 1 v90 h fun v _ => some v) h K91) h fun v92 h =>
 GuardW (wantV v82 false) (fun K93 =>
 RdK (loadA none 2 v92 h fun v _ => some v) h K93) h fun v94 h =>
 GuardW (wantV v82 false) (fun K95 =>
 RdK (some v41) h K95) h fun v96 h =>
 GuardW (wantV v82 false) (fun K97 =>
 RdK (some (slot l46 89)) h K97) h fun v98 h =>
 GuardW (wantV v82 false) (fun K99 =>
 RdK (indexAddrS none 4 v96 v98 h fun v _ => some v) h K99) h fun v100 h =>
 GuardW (wantV v82 false) (fun K101 =>
 RdK (fieldAddrB none 1 v100 h fun v _ => some v) h K101) h fun v102 h =>
 GuardW (wantV v82 false) (fun K103 =>
 RdK (loadA none 2 v102 h fun v _ => some v) h K103) h fun v104 h =>
 GuardW (wantV v82 false) (fun K105 =>
 CallW Try.prog 53 [v94] h fun v106 h =>
 SameK ((reG (wantV v82 false) (reV (some v41) v96)) && ((reG (wantV v82 false) (reV (some (slot l46 89)) v98)) && ((reG (wantV v82 false) (reV (indexAddrS none 4 v96 v98 h fun v _ => some v) v100)) && ((reG (wantV v82 false) (reV (fieldAddrB none 1 v100 h fun v _ => some v) v102)) && ((reG (wantV v82 false) (reV (loadA none 2 v102 h fun v _ => some v) v104)) && true))))) (K105 v106 h)) h fun v107 h =>
 GuardW (wantV v82 false) (fun K108 =>
 CallW Try.prog 53 [v104] h K108) h fun v109 h =>
 GuardW (wantV v82 false) (fun K110 =>
 RdK (binB none Try.prog .eql 3 false false v107 v109 h fun v _ => some v) h K110) h fun v111 h =>
 GuardW (wantV v82 false) (fun K112 =>
 RdK (some v111) h K112) h fun v113 h =>
 GuardW (wantV v113 true) (fun K114 =>
 RdK (some v41) h K114) h fun v115 h =>
 GuardW (wantV v113 true) (fun K116 =>
 RdK (some (slot l46 89)) h K116) h fun v117 h =>
 GuardW (wantV v113 true) (fun K118 =>
 RdK (binB none Try.prog .sub 3 true false v117 (Value.int .i64 (1)) h fun v _ => some v) h K118) h fun v119 h =>
 GuardW (wantV v113 true) (fun K120 =>
 RdK (indexAddrS none 4 v115 v119 h fun v _ => some v) h K120) h fun v121 h =>
 GuardW (wantV v113 true) (fun K122 =>
 RdK (fieldAddrB none 1 v121 h fun v _ => some v) h K122) h fun v123 h =>
 GuardW (wantV v113 true) (fun K124 =>
 RdK (loadA none 2 v123 h fun v _ => some v) h K124) h fun v125 h =>
 GuardW (wantV v113 true) (fun K126 =>
 RdK (some v41) h K126) h fun v127 h =>
 GuardW (wantV v113 true) (fun K128 =>
 RdK (some (slot l46 89)) h K128) h fun v129 h =>
 GuardW (wantV v113 true) (fun K130 =>
 RdK (indexAddrS none 4 v127 v129 h fun v _ => some v) h K130) h fun v131 h =>
 GuardW (wantV v113 true) (fun K132 =>
 RdK (fieldAddrB none 1 v131 h fun v _ => some v) h K132) h fun v133 h =>
 GuardW (wantV v113 true) (fun K134 =>
 RdK (loadA none 2 v133 h fun v _ => some v) h K134) h fun v135 h =>
 GuardW (wantV v113 true) (fun K136 =>
 CallW Try.prog 25 [v125, v135] h K136) h fun v137 h =>
 GuardW (wantV v113 true) (fun K138 =>
 RdK (binB none Try.prog .geq 3 true false v137 (Value.int .i64 (0)) h fun v _ => some v) h K138) h fun v139 h =>
 GuardW (wantV v82 false) (fun K140 =>
 RdK (pickB none v113 v139 (Value.bool false) h fun v _ => some v) h K140) h fun v141 h =>
 GuardW (wantV v51 true) (fun K142 =>
 RdK (pickB none v82 (Value.bool true) v141 h fun v _ => some v) h K142) h fun v143 h =>
 RdK (pickB none v51 v143 (Value.bool false) h fun v _ => some v) h fun v144 h =>
 CondW v144 (
 κ (Value.bool false) h) (
 rs_9_2 l46 v41 N45 v47 v48 v49 v50 v51 v53 v55 v57 v59 v61 v63 v76 v65 v67 v69 v71 v73 v78 v80 v82 v84 v86 v88 v90 v92 v94 v107 v96 v98 v100 v102 v104 v109 v111 v113 v115 v117 v119 v121 v123 v125 v127 v129 v131 v133 v135 v137 v139 v141 v143 v144 h κ)

noncomputable def rs_9_4 (v41 : Value) (l46 : List Value) (N45 : List Value → Heap → Prop) (h : Heap) (κ : Value → Heap → Prop) : Prop :=
 lenSli False v41 h fun v47 h =>
 binB False Try.prog .lss 3 false false (slot l46 89) v47 h fun v48 h =>
 CondW v48 (
 rs_9_3 l46 v41 N45 v47 v48 h κ) (
 lenSli False (slot l46 82) h fun v188 h =>
 binB False Try.prog .eql 3 true false v188 (Value.int .i64 (0)) h fun v189 h =>
 κ v189 h)

noncomputable def rs_9_5 (l5 : List Value) (a0 : Value) (N4 : List Value → Heap → Prop) (v6 : Value) (v7 : Value) (h : Heap) : Prop :=
 RdK (some (slot l5 36)) h fun v8 h =>
 RdK (some a0) h fun v9 h =>
 RdK (some (slot l5 42)) h fun v10 h =>
 RdK (indexAddrS none 2 v9 v10 h fun v _ => some v) h fun v11 h =>
 RdK (fieldAddrB none 0 v11 h fun v _ => some v) h fun v12 h =>
 RdK (load1 none v12 h fun v _ => some v) h fun v13 h =>
 RdK (some a0) h fun v14 h =>
 RdK (some (slot l5 42)) h fun v15 h =>
 RdK (indexAddrS none 2 v14 v15 h fun v _ => some v) h fun v16 h =>
 RdK (fieldAddrB none 1 v16 h fun v _ => some v) h fun v17 h =>
 RdK (load1 none v17 h fun v _ => some v) h fun v18 h =>
 CallW Try.prog 39 [v13] h fun v19 h =>
 SameK ((reV (some (slot l5 36)) v8) && ((reV (some a0) v14) && ((reV (some (slot l5 42)) v15) && ((reV (indexAddrS none 2 v14 v15 h fun v _ => some v) v16) && ((reV (fieldAddrB none 1 v16 h fun v _ => some v) v17) && ((reV (load1 none v17 h fun v _ => some v) v18) && true)))))) (CallW Try.prog 40 [v18] h fun v20 h =>
 SameK ((reV (some (slot l5 36)) v8) && true) (CallW Try.prog 50 [v8, v19, v20] h fun v21 h =>
 LoopR [(slot l5 19), (slot l5 20), (slot l5 21), (slot l5 22), (slot l5 23), (slot l5 24), (slot l5 25), (slot l5 26), (slot l5 27), (slot l5 28), (slot l5 29), (slot l5 30), (slot l5 31), (slot l5 32), (slot l5 33), (slot l5 34), (slot l5 35), (slot l5 36), (slot l5 37), (slot l5 38), (Value.int .i64 (0))] h fun l23 h N22 =>
 lenSli False v21 h fun v24 h =>
 binB False Try.prog .lss 3 false false (slot l23 20) v24 h fun v25 h =>
 CondW v25 (
 rs_9_0 l23 v21 N22 v24 v25 h) (
 binB False Try.prog .add 3 true false (slot l5 42) (Value.int .i64 (1)) h fun v40 h =>
 N4 [(slot l5 42), a0, v6, v7, v8, v9, v10, v11, v12, v13, v19, v14, v15, v16, v17, v18, v20, v21, v21, (slot l23 20), v21, v24, v25, (slot l23 4), (slot l23 5), (slot l23 6), (slot l23 7), (slot l23 8), (slot l23 9), (slot l23 10), (slot l23 11), (slot l23 12), (slot l23 13), (slot l23 14), (slot l23 15), (slot l23 16), (slot l23 17), (slot l23 18), (slot l23 19), (slot l23 20), (slot l5 42), v40, v40] h)))

noncomputable def rs_9_6 (l5 : List Value) (h : Heap) (κ : Value → Heap → Prop) : Prop :=
 CallW Try.prog 52 [(slot l5 36)] h fun v41 h =>
 lenSli False v41 h fun v42 h =>
 lenSli False (slot l5 36) h fun v43 h =>
 binB False Try.prog .neq 3 false false v42 v43 h fun v44 h =>
 CondW v44 (
 κ (Value.bool false) h) (
 LoopR [undef, undef, undef, undef, undef, undef, undef, undef, undef, undef, undef, undef, undef, undef, undef, undef, undef, undef, undef, undef, undef, undef, undef, undef, undef, undef, undef, undef, undef, undef, undef, undef, undef, undef, undef, undef, undef, undef, undef, undef, undef, undef, undef, undef, undef, undef, undef, undef, undef, undef, undef, undef, undef, undef, undef, undef, undef, undef, undef, undef, undef, undef, undef, undef, undef, undef, undef, undef, undef, undef, undef, undef, undef, undef, undef, undef, undef, undef, undef, undef, undef, undef, (slot l5 36), undef, undef, undef, (Value.bool false), undef, undef, (Value.int .i64 (0))] h fun l46 h N45 =>
 rs_9_4 v41 l46 N45 h κ)

noncomputable def rs_9_7 (a0 : Value) (h : Heap) (κ : Value → Heap → Prop) : Prop :=
 lenSli False a0 h fun v2 h =>
 binB False Try.prog .gtr 3 true false v2 (Value.int .i64 (30)) h fun v3 h =>
 CondW v3 (
 κ (Value.bool true) h) (
 LoopR [undef, undef, undef, undef, undef, undef, undef, undef, undef, undef, undef, undef, undef, undef, undef, undef, undef, undef, undef, undef, undef, undef, undef, undef, undef, undef, undef, undef, undef, undef, undef, undef, undef, undef, undef, undef, (Value.slice none 0 0), undef, undef, undef, undef, undef, (Value.int .i64 (0))] h fun l5 h N4 =>
 lenSli False a0 h fun v6 h =>
 binB False Try.prog .lss 3 false false (slot l5 42) v6 h fun v7 h =>
 CondW v7 (
 rs_9_5 l5 a0 N4 v6 v7 h) (
 rs_9_6 l5 h κ))

/-- latchstring/latchstringlaw17.CacheOrders -/
theorem rs_9 (a0 : Value) (h : Heap) (κ : Value → Heap → Prop) : BodyW Try.prog 9 [a0] h κ = (
 CallW Try.prog 38 [] h fun v0 h =>
 unB False .not v0 h fun v1 h =>
 CondW v1 (
 κ (Value.bool false) h) (
 rs_9_7 a0 h κ)) := by kernel_rfl

/-- latchstring/latchstringlaw22.lives -/
theorem rs_14 (h : Heap) (κ : Value → Heap → Prop) : BodyW Try.prog 14 [] h κ = (
 CallW Try.prog 26 [(Value.int .i64 (0))] h fun v0 h =>
 cellsK False [(Value.int .i64 (0)), (Value.int .i64 (0))] 27 false fun o1 => newBlock False o1 h fun b2 h =>
 storeV False 2 (ptrTo b2) v0 h fun v3 h =>
 loadA False 2 (ptrTo b2) h fun v4 h =>
 fillB False [(0, 1), (1, 2), (3, 1)] [(Value.int .i64 (1)), v4, (Value.int .i64 (3))] [(Value.int .i64 (0)), (Value.int .i64 (0)), (Value.int .i64 (0)), (Value.int .i64 (0))] fun cs5 =>
 loadA False 2 (ptrTo b2) h fun v6 h =>
 fillB False [(0, 1), (1, 2), (3, 1)] [(Value.int .i64 (2)), v6, (Value.int .i64 (3))] [(Value.int .i64 (0)), (Value.int .i64 (0)), (Value.int .i64 (0)), (Value.int .i64 (0))] fun cs7 =>
 loadA False 2 (ptrTo b2) h fun v8 h =>
 fillB False [(0, 1), (1, 2), (3, 1)] [(Value.int .i64 (3)), v8, (Value.int .i64 (6))] [(Value.int .i64 (0)), (Value.int .i64 (0)), (Value.int .i64 (0)), (Value.int .i64 (0))] fun cs9 =>
 fillB False [(0, 4), (4, 4), (8, 4)] [(Value.agg (Array.mk cs5)), (Value.agg (Array.mk cs7)), (Value.agg (Array.mk cs9))] (repeatL [(Value.int .i64 (0)), (Value.int .i64 (0)), (Value.int .i64 (0)), (Value.int .i64 (0))] 3) fun cs12 => cellsK False cs12 30 false fun o10 => newBlock False o10 h fun b11 h =>
 CallW Try.prog 15 [(sliceTo 3 3 b11)] h fun v13 h =>
 extractB False 0 v13 h fun v14 h =>
 extractB False 1 v13 h fun v15 h =>
 extractB False 2 v13 h fun v16 h =>
 GuardW (wantV v16 true) (fun K17 =>
 K17 v14 h) h fun v18 h =>
 GuardW (wantV v16 true) (fun K19 =>
 binB False Try.prog .eql 3 true false v18 (Value.int .i64 (0)) h K19) h fun v20 h =>
 pickB False v16 v20 (Value.bool false) h fun v21 h =>
 GuardW (wantV v21 true) (fun K22 =>
 K22 v15 h) h fun v23 h =>
 GuardW (wantV v21 true) (fun K24 =>
 binB False Try.prog .eql 3 true false v23 (Value.int .i64 (2)) h K24) h fun v25 h =>
 pickB False v21 v25 (Value.bool false) h fun v26 h =>
 κ v26 h) := by kernel_rfl

noncomputable def rs_15_0 (a0 : Value) (l11 : List Value) (b7 : Nat) (l2 : List Value) (N10 : List Value → Heap → Prop) (v12 : Value) (v13 : Value) (h : Heap) (κ : Value → Heap → Prop) : Prop :=
 indexAddrS False 4 a0 (slot l11 36) h fun v14 h =>
 loadA False 4 v14 h fun v15 h =>
 cellsK False [(Value.int .i64 (0)), (Value.int .i64 (0)), (Value.int .i64 (0)), (Value.int .i64 (0))] 30 false fun o16 => newBlock False o16 h fun b17 h =>
 storeV False 4 (ptrTo b17) v15 h fun v18 h =>
 fieldAddrB False 1 (ptrTo b7) h fun v19 h =>
 loadA False 2 v19 h fun v20 h =>
 fieldAddrB False 1 (ptrTo b17) h fun v21 h =>
 loadA False 2 v21 h fun v22 h =>
 binB False Try.prog .eql 27 false false v20 v22 h fun v23 h =>
 GuardW (wantV v23 true) (fun K24 =>
 fieldAddrB False 0 (ptrTo b7) h K24) h fun v25 h =>
 GuardW (wantV v23 true) (fun K26 =>
 load1 False v25 h K26) h fun v27 h =>
 GuardW (wantV v23 true) (fun K28 =>
 fieldAddrB False 0 (ptrTo b17) h K28) h fun v29 h =>
 GuardW (wantV v23 true) (fun K30 =>
 load1 False v29 h K30) h fun v31 h =>
 GuardW (wantV v23 true) (fun K32 =>
 binB False Try.prog .neq 3 false false v27 v31 h K32) h fun v33 h =>
 pickB False v23 v33 (Value.bool false) h fun v34 h =>
 GuardW (wantV v34 true) (fun K35 =>
 fieldAddrB False 3 (ptrTo b7) h K35) h fun v36 h =>
 GuardW (wantV v34 true) (fun K37 =>
 load1 False v36 h K37) h fun v38 h =>
 GuardW (wantV v34 true) (fun K39 =>
 fieldAddrB False 3 (ptrTo b17) h K39) h fun v40 h =>
 GuardW (wantV v34 true) (fun K41 =>
 load1 False v40 h K41) h fun v42 h =>
 GuardW (wantV v34 true) (fun K43 =>
 CallW Try.prog 65 [v38, v42] h K43) h fun v44 h =>
 GuardW (wantV v34 true) (fun K45 =>
 unB False .not v44 h K45) h fun v46 h =>
 pickB False v34 v46 (Value.bool false) h fun v47 h =>
 CondW v47 (
 κ (Value.tuple (Array.mk [(slot l2 46), (slot l11 36), (Value.bool true)])) h) (
 binB False Try.prog .add 3 true false (slot l11 36) (Value.int .i64 (1)) h fun v48 h =>
 N10 [(slot l11 36), a0, v12, v13, a0, (slot l11 36), v14, v15, (ptrTo b17), v19, v20, v21, v22, v23, v23, v25, v27, v29, v31, v33, v34, v34, v36, v38, v40, v42, v44, v46, v47, (slot l11 29), (slot l11 30), (slot l11 31), (slot l11 32), (slot l11 33), (slot l11 36), v48, v48] h)

noncomputable def rs_15_1 (a0 : Value) (l2 : List Value) (N1 : List Value → Heap → Prop) (v3 : Value) (h : Heap) (κ : Value → Heap → Prop) : Prop :=
 indexAddrS False 4 a0 (slot l2 46) h fun v4 h =>
 loadA False 4 v4 h fun v5 h =>
 cellsK False [(Value.int .i64 (0)), (Value.int .i64 (0)), (Value.int .i64 (0)), (Value.int .i64 (0))] 30 false fun o6 => newBlock False o6 h fun b7 h =>
 storeV False 4 (ptrTo b7) v5 h fun v8 h =>
 binB False Try.prog .add 3 true false (slot l2 46) (Value.int .i64 (1)) h fun v9 h =>
 LoopR [(slot l2 8), (slot l2 9), (slot l2 10), (slot l2 11), (slot l2 12), (slot l2 13), (slot l2 14), (slot l2 15), (slot l2 16), (slot l2 17), (slot l2 18), (slot l2 19), (slot l2 20), (slot l2 21), (slot l2 22), (slot l2 23), (slot l2 24), (slot l2 25), (slot l2 26), (slot l2 27), (slot l2 28), (slot l2 29), (slot l2 30), (slot l2 31), (slot l2 32), (slot l2 33), (slot l2 34), (slot l2 35), (slot l2 36), (slot l2 37), (slot l2 38), (slot l2 39), (slot l2 40), (slot l2 41), (slot l2 42), (slot l2 43), v9] h fun l11 h N10 =>
 lenSli False a0 h fun v12 h =>
 binB False Try.prog .lss 3 false false (slot l11 36) v12 h fun v13 h =>
 CondW v13 (
 rs_15_0 a0 l11 b7 l2 N10 v12 v13 h κ) (
 binB False Try.prog .add 3 true false (slot l2 46) (Value.int .i64 (1)) h fun v49 h =>
 N1 [v3, (slot l2 46), v4, v5, (ptrTo b7), (slot l2 46), (slot l2 46), v9, (slot l11 36), a0, v12, v13, (slot l11 4), (slot l11 5), (slot l11 6), (slot l11 7), (slot l11 8), (slot l11 9), (slot l11 10), (slot l11 11), (slot l11 12), (slot l11 13), (slot l11 14), (slot l11 15), (slot l11 16), (slot l11 17), (slot l11 18), (slot l11 19), (slot l11 20), (slot l11 21), (slot l11 22), (slot l11 23), (slot l11 24), (slot l11 25), (slot l11 26), (slot l11 27), (slot l11 28), (slot l11 29), (slot l11 30), (slot l11 31), (slot l11 32), (slot l11 33), (slot l11 34), (slot l11 35), (slot l11 36), v49, v49] h)

/-- latchstring/safety.Clash -/
theorem rs_15 (a0 : Value) (h : Heap) (κ : Value → Heap → Prop) : BodyW Try.prog 15 [a0] h κ = (
 lenSli False a0 h fun v0 h =>
 LoopR [undef, undef, undef, undef, undef, undef, undef, undef, undef, undef, undef, undef, undef, undef, undef, undef, undef, undef, undef, undef, undef, undef, undef, undef, undef, undef, undef, undef, undef, undef, undef, undef, undef, undef, undef, undef, undef, undef, undef, (Value.int .i64 (0)), (Value.int .i64 (0)), (Value.bool false), undef, undef, undef, undef, (Value.int .i64 (0))] h fun l2 h N1 =>
 binB False Try.prog .lss 3 false false (slot l2 46) v0 h fun v3 h =>
 CondW v3 (
 rs_15_1 a0 l2 N1 v3 h κ) (
 κ (Value.tuple (Array.mk [(Value.int .i64 (0)), (Value.int .i64 (0)), (Value.bool false)])) h)) := by kernel_rfl

/-- latchstring/latchstringref01.Compatible -/
theorem rs_16 (a0 a1 : Value) (h : Heap) (κ : Value → Heap → Prop) : BodyW Try.prog 16 [a0, a1] h κ = (
 CallW Try.prog 49 [a0] h fun v0 h =>
 GuardW (wantV v0 true) (fun K1 =>
 K1 a1 h) h fun v2 h =>
 GuardW (wantV v0 true) (fun K3 =>
 CallW Try.prog 49 [v2] h K3) h fun v4 h =>
 pickB False v0 v4 (Value.bool false) h fun v5 h =>
 GuardW (wantV v5 true) (fun K6 =>
 K6 a0 h) h fun v7 h =>
 GuardW (wantV v5 true) (fun K8 =>
 CallW Try.prog 66 [v7] h K8) h fun v9 h =>
 GuardW (wantV v5 true) (fun K10 =>
 K10 a1 h) h fun v11 h =>
 GuardW (wantV v5 true) (fun K12 =>
 indexS False v9 v11 h K12) h fun v13 h =>
 GuardW (wantV v5 true) (fun K14 =>
 binB False Try.prog .eql 5 true false v13 (Value.int .u8 (43)) h K14) h fun v15 h =>
 pickB False v5 v15 (Value.bool false) h fun v16 h =>
 κ v16 h) := by kernel_rfl

noncomputable def rs_17_0 (v1 : Value) (h : Heap) (κ : Value → Heap → Prop) : Prop :=
 CallW Try.prog 67 [] h fun v9 h =>
 CallW Try.prog 20 [v1, v9, (Value.int .i64 (1))] h fun v10 h =>
 CallW Try.prog 26 [(Value.int .i64 (3))] h fun v11 h =>
 CallW Try.prog 20 [v1, v11, (Value.int .i64 (3))] h fun v12 h =>
 binB False Try.prog .eql 36 true false v10 (Value.int .i64 (0)) h fun v13 h =>
 GuardW (wantV v13 true) (fun K14 =>
 K14 v12 h) h fun v15 h =>
 GuardW (wantV v13 true) (fun K16 =>
 binB False Try.prog .eql 36 true false v15 (Value.int .i64 (8)) h K16) h fun v17 h =>
 pickB False v13 v17 (Value.bool false) h fun v18 h =>
 κ v18 h

/-- latchstring/latchstringlaw18.lives -/
theorem rs_17 (h : Heap) (κ : Value → Heap → Prop) : BodyW Try.prog 17 [] h κ = (
 CallW Try.prog 19 [(Value.int .i64 (-1)), (Value.int .i64 (1))] h fun v0 h =>
 extractB False 0 v0 h fun v1 h =>
 extractB False 1 v0 h fun v2 h =>
 binB False Try.prog .neq 36 true false v2 (Value.int .i64 (0)) h fun v3 h =>
 GuardW (wantV v3 false) (fun K4 =>
 K4 v1 h) h fun v5 h =>
 GuardW (wantV v3 false) (fun K6 =>
 binB False Try.prog .eql 35 true false v5 (Value.pointer none) h K6) h fun v7 h =>
 pickB False v3 (Value.bool true) v7 h fun v8 h =>
 CondW v8 (
 κ (Value.bool false) h) (
 rs_17_0 v1 h κ)) := by kernel_rfl

/-- latchstring/latchstringlaw17.lives -/
theorem rs_38 (h : Heap) (κ : Value → Heap → Prop) : BodyW Try.prog 38 [] h κ = (
 CallW Try.prog 73 [(Value.int .i64 (3)), (Value.int .i64 (7))] h fun v0 h =>
 CallW Try.prog 41 [(Value.slice none 0 0), v0, (Value.int .i64 (6))] h fun v1 h =>
 CallW Try.prog 67 [] h fun v2 h =>
 fillB False [(0, 1), (1, 2), (3, 1)] [(Value.int .i64 (1)), v2, (Value.int .i64 (2))] [(Value.int .i64 (0)), (Value.int .i64 (0)), (Value.int .i64 (0)), (Value.int .i64 (0))] fun cs3 =>
 CallW Try.prog 26 [(Value.int .i64 (3))] h fun v4 h =>
 fillB False [(0, 1), (1, 2), (3, 1)] [(Value.int .i64 (1)), v4, (Value.int .i64 (6))] [(Value.int .i64 (0)), (Value.int .i64 (0)), (Value.int .i64 (0)), (Value.int .i64 (0))] fun cs5 =>
 fillB False [(0, 4), (4, 4)] [(Value.agg (Array.mk cs3)), (Value.agg (Array.mk cs5))] (repeatL [(Value.int .i64 (0)), (Value.int .i64 (0)), (Value.int .i64 (0)), (Value.int .i64 (0))] 2) fun cs8 => cellsK False cs8 30 false fun o6 => newBlock False o6 h fun b7 h =>
 CallW Try.prog 67 [] h fun v9 h =>
 fillB False [(0, 2), (2, 1)] [v9, (Value.int .i64 (2))] [(Value.int .i64 (0)), (Value.int .i64 (0)), (Value.int .i64 (0))] fun cs10 =>
 CallW Try.prog 26 [(Value.int .i64 (3))] h fun v11 h =>
 fillB False [(0, 2), (2, 1)] [v11, (Value.int .i64 (2))] [(Value.int .i64 (0)), (Value.int .i64 (0)), (Value.int .i64 (0))] fun cs12 =>
 CallW Try.prog 73 [(Value.int .i64 (3)), (Value.int .i64 (7))] h fun v13 h =>
 fillB False [(0, 2), (2, 1)] [v13, (Value.int .i64 (6))] [(Value.int .i64 (0)), (Value.int .i64 (0)), (Value.int .i64 (0))] fun cs14 =>
 fillB False [(0, 3), (3, 3), (6, 3)] [(Value.agg (Array.mk cs10)), (Value.agg (Array.mk cs12)), (Value.agg (Array.mk cs14))] (repeatL [(Value.int .i64 (0)), (Value.int .i64 (0)), (Value.int .i64 (0))] 3) fun cs17 => cellsK False cs17 70 false fun o15 => newBlock False o15 h fun b16 h =>
 CallW Try.prog 74 [v1, (sliceTo 3 3 b16)] h fun v18 h =>
 GuardW (wantV v18 true) (fun K19 =>
 K19 (sliceTo 2 2 b7) h) h fun v20 h =>
 GuardW (wantV v18 true) (fun K21 =>
 CallW Try.prog 73 [(Value.int .i64 (3)), (Value.int .i64 (7))] h K21) h fun v22 h =>
 GuardW (wantV v18 true) (fun K23 =>
 CallW Try.prog 41 [v20, v22, (Value.int .i64 (3))] h K23) h fun v24 h =>
 GuardW (wantV v18 true) (fun K25 =>
 lenSli False v24 h K25) h fun v26 h =>
 GuardW (wantV v18 true) (fun K27 =>
 binB False Try.prog .eql 3 true false v26 (Value.int .i64 (0)) h K27) h fun v28 h =>
 pickB False v18 v28 (Value.bool false) h fun v29 h =>
 κ v29 h) := by kernel_rfl

noncomputable def rs_39_0 (v2 : Value) (b1 : Nat) (h : Heap) (κ : Value → Heap → Prop) : Prop :=
 binB False Try.prog .sub 3 true false v2 (Value.int .i64 (4)) h fun v12 h =>
 binB False Try.prog .quo 3 true false v12 (Value.int .i64 (3)) h fun v13 h =>
 binB False Try.prog .sub 3 true false v2 (Value.int .i64 (4)) h fun v14 h =>
 binB False Try.prog .rem 3 true false v14 (Value.int .i64 (3)) h fun v15 h =>
 CallW Try.prog 73 [v13, v15] h fun v16 h =>
 storeV False 2 (ptrTo b1) v16 h fun v17 h =>
 loadA False 2 (ptrTo b1) h fun v18 _ => κ v18 h

noncomputable def rs_39_1 (v2 : Value) (b1 : Nat) (h : Heap) (κ : Value → Heap → Prop) : Prop :=
 binB False Try.prog .lss 3 true false v2 (Value.int .i64 (4)) h fun v7 h =>
 CondW v7 (
 binB False Try.prog .sub 3 true false v2 (Value.int .i64 (1)) h fun v8 h =>
 CallW Try.prog 26 [v8] h fun v9 h =>
 storeV False 2 (ptrTo b1) v9 h fun v10 h =>
 loadA False 2 (ptrTo b1) h fun v11 _ => κ v11 h) (
 rs_39_0 v2 b1 h κ)

/-- latchstring/latchstringkit.Name -/
theorem rs_39 (a0 : Value) (h : Heap) (κ : Value → Heap → Prop) : BodyW Try.prog 39 [a0] h κ = (
 cellsK False [(Value.int .i64 (0)), (Value.int .i64 (0))] 27 false fun o0 => newBlock False o0 h fun b1 h =>
 CallW Try.prog 18 [a0, (Value.int .i64 (13))] h fun v2 h =>
 binB False Try.prog .eql 3 true false v2 (Value.int .i64 (0)) h fun v3 h =>
 CondW v3 (
 CallW Try.prog 67 [] h fun v4 h =>
 storeV False 2 (ptrTo b1) v4 h fun v5 h =>
 loadA False 2 (ptrTo b1) h fun v6 _ => κ v6 h) (
 rs_39_1 v2 b1 h κ)) := by kernel_rfl

/-- latchstring/latchstringkit.Mode -/
theorem rs_40 (a0 : Value) (h : Heap) (κ : Value → Heap → Prop) : BodyW Try.prog 40 [a0] h κ = (
 CallW Try.prog 18 [a0, (Value.int .i64 (6))] h fun v0 h =>
 binB False Try.prog .add 3 true false (Value.int .i64 (1)) v0 h fun v1 h =>
 κ v1 h) := by kernel_rfl

noncomputable def rs_41_0 (l9 : List Value) (b16 : Nat) (v19 : Value) (v4 : Value) (N11 : List Value → Heap → Prop) (v13 : Value) (v14 : Value) (a0 : Value) (v18 : Value) (v20 : Value) (v21 : Value) (h : Heap) : Prop :=
 RdK (some (slot l9 20)) h fun v22 h =>
 RdK (loadA none 2 (ptrTo b16) h fun v _ => some v) h fun v23 h =>
 RdK (some v19) h fun v24 h =>
 RdK (some v4) h fun v25 h =>
 CallW Try.prog 78 [v24, v25] h fun v26 h =>
 SameK ((reV (some (slot l9 20)) v22) && ((reV (loadA none 2 (ptrTo b16) h fun v _ => some v) v23) && true)) (RdK (fillB none [(0, 2), (2, 1)] [v23, v26] [(Value.int .i64 (0)), (Value.int .i64 (0)), (Value.int .i64 (0))] fun cs => some (Value.agg (Array.mk cs))) h fun v27 h =>
 AlK (fillB none [(0, 3)] [v27] (repeatL [(Value.int .i64 (0)), (Value.int .i64 (0)), (Value.int .i64 (0))] 1) fun cs => cellsK none cs 70 false fun o => some (o, sliceTo 1 1)) h fun v28 h =>
 appendB False 70 3 [(Value.int .i64 (0)), (Value.int .i64 (0)), (Value.int .i64 (0))] false v22 v28 h fun v29 h =>
 N11 [v13, v14, (ptrTo b16), a0, v18, v19, v19, v19, v4, v20, v21, v22, v23, v24, v25, v26, v27, v28, v29, v29] h)

noncomputable def rs_41_1 (v6 : Value) (l9 : List Value) (a0 : Value) (v4 : Value) (N11 : List Value → Heap → Prop) (h : Heap) : Prop :=
 indexAddrS False 2 v6 (slot l9 22) h fun v13 h =>
 loadA False 2 v13 h fun v14 h =>
 cellsK False [(Value.int .i64 (0)), (Value.int .i64 (0))] 27 false fun o15 => newBlock False o15 h fun b16 h =>
 storeV False 2 (ptrTo b16) v14 h fun v17 h =>
 loadA False 2 (ptrTo b16) h fun v18 h =>
 CallW Try.prog 42 [a0, v18] h fun v19 h =>
 CallW Try.prog 77 [v19, v4] h fun v20 h =>
 unB False .not v20 h fun v21 h =>
 CondW v21 (
 rs_41_0 l9 b16 v19 v4 N11 v13 v14 a0 v18 v20 v21 h) (
 N11 [v13, v14, (ptrTo b16), a0, v18, v19, v19, v19, v4, v20, v21, (slot l9 12), (slot l9 13), (slot l9 14), (slot l9 15), (slot l9 16), (slot l9 17), (slot l9 18), (slot l9 19), (slot l9 20)] h)

noncomputable def rs_41_2 (l9 : List Value) (b1 : Nat) (a0 : Value) (a2 : Value) (h : Heap) (κ : Value → Heap → Prop) : Prop :=
 RdK (some (slot l9 20)) h fun v31 h =>
 RdK (loadA none 2 (ptrTo b1) h fun v _ => some v) h fun v32 h =>
 RdK (some a0) h fun v33 h =>
 RdK (loadA none 2 (ptrTo b1) h fun v _ => some v) h fun v34 h =>
 RdK (some a2) h fun v35 h =>
 CallW Try.prog 42 [v33, v34] h fun v36 h =>
 SameK ((reV (some (slot l9 20)) v31) && ((reV (loadA none 2 (ptrTo b1) h fun v _ => some v) v32) && ((reV (some a2) v35) && true))) (CallW Try.prog 78 [v36, v35] h fun v37 h =>
 SameK ((reV (some (slot l9 20)) v31) && ((reV (loadA none 2 (ptrTo b1) h fun v _ => some v) v32) && true)) (RdK (fillB none [(0, 2), (2, 1)] [v32, v37] [(Value.int .i64 (0)), (Value.int .i64 (0)), (Value.int .i64 (0))] fun cs => some (Value.agg (Array.mk cs))) h fun v38 h =>
 AlK (fillB none [(0, 3)] [v38] (repeatL [(Value.int .i64 (0)), (Value.int .i64 (0)), (Value.int .i64 (0))] 1) fun cs => cellsK none cs 70 false fun o => some (o, sliceTo 1 1)) h fun v39 h =>
 appendB False 70 3 [(Value.int .i64 (0)), (Value.int .i64 (0)), (Value.int .i64 (0))] false v31 v39 h fun v40 h =>
 κ v40 h))

noncomputable def rs_41_3 (l9 : List Value) (v7 : Value) (v6 : Value) (a0 : Value) (v4 : Value) (N8 : List Value → Heap → Prop) (b1 : Nat) (a2 : Value) (h : Heap) (κ : Value → Heap → Prop) : Prop :=
 binB False Try.prog .lss 3 false false (slot l9 22) v7 h fun v10 h =>
 CondW v10 (
 JoinR (fun N11 =>
 rs_41_1 v6 l9 a0 v4 N11 h) fun l12 h =>
 binB False Try.prog .add 3 true false (slot l9 22) (Value.int .i64 (1)) h fun v30 h =>
 N8 [v10, (slot l12 0), (slot l12 1), (slot l12 2), (slot l12 3), (slot l12 4), (slot l12 5), (slot l12 6), (slot l12 7), (slot l12 8), (slot l12 9), (slot l12 10), (slot l12 11), (slot l12 12), (slot l12 13), (slot l12 14), (slot l12 15), (slot l12 16), (slot l12 17), (slot l12 18), (slot l12 19), v30, v30] h) (
 rs_41_2 l9 b1 a0 a2 h κ)

/-- latchstring/cache.Plan -/
theorem rs_41 (a0 a1 a2 : Value) (h : Heap) (κ : Value → Heap → Prop) : BodyW Try.prog 41 [a0, a1, a2] h κ = (
 cellsK False (Value.cells a1).toList 27 false fun o0 => newBlock False o0 h fun b1 h =>
 loadA False 2 (ptrTo b1) h fun v2 h =>
 CallW Try.prog 46 [a0, v2, a2] h fun v3 h =>
 CondW v3 (
 κ (Value.slice none 0 0) h) (
 CallW Try.prog 75 [a2] h fun v4 h =>
 loadA False 2 (ptrTo b1) h fun v5 h =>
 CallW Try.prog 76 [v5] h fun v6 h =>
 lenSli False v6 h fun v7 h =>
 LoopR [undef, undef, undef, undef, undef, undef, undef, undef, undef, undef, undef, undef, undef, undef, undef, undef, undef, undef, undef, undef, (Value.slice none 0 0), undef, (Value.int .i64 (0))] h fun l9 h N8 =>
 rs_41_3 l9 v7 v6 a0 v4 N8 b1 a2 h κ)) := by kernel_rfl

/-- latchstring/latchstringref01.Covers -/
theorem rs_43 (a0 a1 : Value) (h : Heap) (κ : Value → Heap → Prop) : BodyW Try.prog 43 [a0, a1] h κ = (
 CallW Try.prog 49 [a0] h fun v0 h =>
 GuardW (wantV v0 true) (fun K1 =>
 K1 a1 h) h fun v2 h =>
 GuardW (wantV v0 true) (fun K3 =>
 CallW Try.prog 49 [v2] h K3) h fun v4 h =>
 pickB False v0 v4 (Value.bool false) h fun v5 h =>
 GuardW (wantV v5 true) (fun K6 =>
 K6 a0 h) h fun v7 h =>
 GuardW (wantV v5 true) (fun K8 =>
 CallW Try.prog 80 [v7] h K8) h fun v9 h =>
 GuardW (wantV v5 true) (fun K10 =>
 K10 a1 h) h fun v11 h =>
 GuardW (wantV v5 true) (fun K12 =>
 indexS False v9 v11 h K12) h fun v13 h =>
 GuardW (wantV v5 true) (fun K14 =>
 binB False Try.prog .eql 5 true false v13 (Value.int .u8 (43)) h K14) h fun v15 h =>
 pickB False v5 v15 (Value.bool false) h fun v16 h =>
 κ v16 h) := by kernel_rfl

noncomputable def rs_45_0 (v11 : Value) (l14 : List Value) (a0 : Value) (b7 : Nat) (N13 : List Value → Heap → Prop) (v15 : Value) (h : Heap) (κ : Value → Heap → Prop) : Prop :=
 indexAddrS False 2 v11 (slot l14 14) h fun v16 h =>
 loadA False 2 v16 h fun v17 h =>
 cellsK False [(Value.int .i64 (0)), (Value.int .i64 (0))] 27 false fun o18 => newBlock False o18 h fun b19 h =>
 storeV False 2 (ptrTo b19) v17 h fun v20 h =>
 RdK (some a0) h fun v21 h =>
 RdK (loadA none 2 (ptrTo b19) h fun v _ => some v) h fun v22 h =>
 RdK (fieldAddrB none 3 (ptrTo b7) h fun v _ => some v) h fun v23 h =>
 RdK (load1 none v23 h fun v _ => some v) h fun v24 h =>
 CallW Try.prog 42 [v21, v22] h fun v25 h =>
 SameK ((reV (fieldAddrB none 3 (ptrTo b7) h fun v _ => some v) v23) && ((reV (load1 none v23 h fun v _ => some v) v24) && true)) (CallW Try.prog 75 [v24] h fun v26 h =>
 CallW Try.prog 77 [v25, v26] h fun v27 h =>
 RdK (unB none .not v27 h fun v _ => some v) h fun v28 h =>
 CondW v28 (
 κ (Value.bool false) h) (
 binB False Try.prog .add 3 true false (slot l14 14) (Value.int .i64 (1)) h fun v29 h =>
 N13 [v15, v16, v17, (ptrTo b19), v21, v22, v25, v23, v24, v26, v27, v28, (slot l14 12), v29, v29] h))

noncomputable def rs_45_1 (a0 : Value) (l2 : List Value) (N1 : List Value → Heap → Prop) (v3 : Value) (h : Heap) (κ : Value → Heap → Prop) : Prop :=
 indexAddrS False 4 a0 (slot l2 24) h fun v4 h =>
 loadA False 4 v4 h fun v5 h =>
 cellsK False [(Value.int .i64 (0)), (Value.int .i64 (0)), (Value.int .i64 (0)), (Value.int .i64 (0))] 30 false fun o6 => newBlock False o6 h fun b7 h =>
 storeV False 4 (ptrTo b7) v5 h fun v8 h =>
 fieldAddrB False 1 (ptrTo b7) h fun v9 h =>
 loadA False 2 v9 h fun v10 h =>
 CallW Try.prog 76 [v10] h fun v11 h =>
 lenSli False v11 h fun v12 h =>
 LoopR [(slot l2 8), (slot l2 9), (slot l2 10), (slot l2 11), (slot l2 12), (slot l2 13), (slot l2 14), (slot l2 15), (slot l2 16), (slot l2 17), (slot l2 18), (slot l2 19), (slot l2 20), (slot l2 21), (Value.int .i64 (0))] h fun l14 h N13 =>
 binB False Try.prog .lss 3 false false (slot l14 14) v12 h fun v15 h =>
 CondW v15 (
 rs_45_0 v11 l14 a0 b7 N13 v15 h κ) (
 binB False Try.prog .add 3 true false (slot l2 24) (Value.int .i64 (1)) h fun v30 h =>
 N1 [v3, v4, v5, (ptrTo b7), v9, v10, v11, v12, v15, (slot l14 1), (slot l14 2), (slot l14 3), (slot l14 4), (slot l14 5), (slot l14 6), (slot l14 7), (slot l14 8), (slot l14 9), (slot l14 10), (slot l14 11), (slot l14 12), (slot l14 13), (slot l14 14), v30, v30] h)

/-- latchstring/cache.Whole -/
theorem rs_45 (a0 : Value) (h : Heap) (κ : Value → Heap → Prop) : BodyW Try.prog 45 [a0] h κ = (
 lenSli False a0 h fun v0 h =>
 LoopR [undef, undef, undef, undef, undef, undef, undef, undef, undef, undef, undef, undef, undef, undef, undef, undef, undef, undef, undef, undef, (Value.bool false), undef, undef, undef, (Value.int .i64 (0))] h fun l2 h N1 =>
 binB False Try.prog .lss 3 false false (slot l2 24) v0 h fun v3 h =>
 CondW v3 (
 rs_45_1 a0 l2 N1 v3 h κ) (
 κ (Value.bool true) h)) := by kernel_rfl

/-- latchstring/cache.Implied -/
theorem rs_46 (a0 a1 a2 : Value) (h : Heap) (κ : Value → Heap → Prop) : BodyW Try.prog 46 [a0, a1, a2] h κ = (
 cellsK False (Value.cells a0).toList 22 false fun o0 => newBlock False o0 h fun b1 h =>
 cellsK False (Value.cells a1).toList 27 false fun o2 => newBlock False o2 h fun b3 h =>
 cellsK False (Value.cells a2).toList 28 false fun o4 => newBlock False o4 h fun b5 h =>
 RdK (loadA none 2 (ptrTo b3) h fun v _ => some v) h fun v6 h =>
 RdK (load1 none (ptrTo b5) h fun v _ => some v) h fun v7 h =>
 CallW Try.prog 86 [v6, v7] h fun v8 h =>
 RdK (unB none .not v8 h fun v _ => some v) h fun v9 h =>
 RdK (some v9) h fun v10 h =>
 GuardW (wantV v10 false) (fun K11 =>
 RdK (load1 none (ptrTo b1) h fun v _ => some v) h K11) h fun v12 h =>
 GuardW (wantV v10 false) (fun K13 =>
 RdK (loadA none 2 (ptrTo b3) h fun v _ => some v) h K13) h fun v14 h =>
 GuardW (wantV v10 false) (fun K15 =>
 RdK (load1 none (ptrTo b5) h fun v _ => some v) h K15) h fun v16 h =>
 GuardW (wantV v10 false) (fun K17 =>
 CallW Try.prog 42 [v12, v14] h fun v18 h =>
 SameK ((reG (wantV v10 false) (reV (load1 none (ptrTo b5) h fun v _ => some v) v16)) && true) (K17 v18 h)) h fun v19 h =>
 GuardW (wantV v10 false) (fun K20 =>
 CallW Try.prog 77 [v19, v16] h K20) h fun v21 h =>
 RdK (pickB none v10 (Value.bool true) v21 h fun v _ => some v) h fun v22 h =>
 CondW v22 (
 κ (Value.bool true) h) (
 loadA False 2 (ptrTo b3) h fun v23 h =>
 CallW Try.prog 76 [v23] h fun v24 h =>
 CallW Try.prog 87 [v24, (Value.func (.func 88) (Array.mk []) (Array.mk [(ptrTo b1), (ptrTo b5)]))] h fun v25 h =>
 κ v25 h)) := by kernel_rfl

noncomputable def rs_47_0 (l11 : List Value) (v9 : Value) (N10 : List Value → Heap → Prop) (v12 : Value) (v13 : Value) (h : Heap) : Prop :=
 RdK (some (slot l11 17)) h fun v14 h =>
 RdK (some v9) h fun v15 h =>
 RdK (some (slot l11 20)) h fun v16 h =>
 RdK (indexAddrS none 3 v15 v16 h fun v _ => some v) h fun v17 h =>
 RdK (fieldAddrB none 0 v17 h fun v _ => some v) h fun v18 h =>
 RdK (loadA none 2 v18 h fun v _ => some v) h fun v19 h =>
 RdK (some v9) h fun v20 h =>
 RdK (some (slot l11 20)) h fun v21 h =>
 RdK (indexAddrS none 3 v20 v21 h fun v _ => some v) h fun v22 h =>
 RdK (fieldAddrB none 2 v22 h fun v _ => some v) h fun v23 h =>
 RdK (load1 none v23 h fun v _ => some v) h fun v24 h =>
 RdK (fillB none [(0, 1), (1, 2), (3, 1)] [(Value.int .i64 (1)), v19, v24] [(Value.int .i64 (0)), (Value.int .i64 (0)), (Value.int .i64 (0)), (Value.int .i64 (0))] fun cs => some (Value.agg (Array.mk cs))) h fun v25 h =>
 CallW Try.prog 51 [v14, v25] h fun v26 h =>
 binB False Try.prog .add 3 true false (slot l11 20) (Value.int .i64 (1)) h fun v27 h =>
 N10 [(slot l11 20), v9, v12, v13, v14, v15, v16, v17, v18, v19, v20, v21, v22, v23, v24, v25, v26, v26, (slot l11 20), v27, v27] h

/-- latchstring/latchstringlaw17.had -/
theorem rs_47 (a0 a1 : Value) (h : Heap) (κ : Value → Heap → Prop) : BodyW Try.prog 47 [a0, a1] h κ = (
 cellsK False (Value.cells a1).toList 64 false fun o0 => newBlock False o0 h fun b1 h =>
 RdK (some a0) h fun v2 h =>
 RdK (fieldAddrB none 0 (ptrTo b1) h fun v _ => some v) h fun v3 h =>
 RdK (load1 none v3 h fun v _ => some v) h fun v4 h =>
 RdK (fieldAddrB none 1 (ptrTo b1) h fun v _ => some v) h fun v5 h =>
 RdK (load1 none v5 h fun v _ => some v) h fun v6 h =>
 CallW Try.prog 39 [v4] h fun v7 h =>
 SameK ((reV (some a0) v2) && ((reV (fieldAddrB none 1 (ptrTo b1) h fun v _ => some v) v5) && ((reV (load1 none v5 h fun v _ => some v) v6) && true))) (CallW Try.prog 40 [v6] h fun v8 h =>
 SameK ((reV (some a0) v2) && true) (CallW Try.prog 50 [v2, v7, v8] h fun v9 h =>
 LoopR [undef, undef, undef, undef, undef, undef, undef, undef, undef, undef, undef, undef, undef, undef, undef, undef, undef, a0, undef, undef, (Value.int .i64 (0))] h fun l11 h N10 =>
 lenSli False v9 h fun v12 h =>
 binB False Try.prog .lss 3 false false (slot l11 20) v12 h fun v13 h =>
 CondW v13 (
 rs_47_0 l11 v9 N10 v12 v13 h) (
 κ (slot l11 17) h)))) := by kernel_rfl

/-- latchstring/latchstringref01.Known -/
theorem rs_49 (a0 : Value) (h : Heap) (κ : Value → Heap → Prop) : BodyW Try.prog 49 [a0] h κ = (
 binB False Try.prog .geq 28 true false a0 (Value.int .i64 (0)) h fun v0 h =>
 GuardW (wantV v0 true) (fun K1 =>
 K1 a0 h) h fun v2 h =>
 GuardW (wantV v0 true) (fun K3 =>
 binB False Try.prog .leq 28 true false v2 (Value.int .i64 (6)) h K3) h fun v4 h =>
 pickB False v0 v4 (Value.bool false) h fun v5 h =>
 κ v5 h) := by kernel_rfl

noncomputable def rs_50_0 (l8 : List Value) (v5 : Value) (v15 : Value) (v6 : Value) (N11 : List Value → Heap → Prop) (a0 : Value) (v13 : Value) (v14 : Value) (v16 : Value) (v17 : Value) (h : Heap) : Prop :=
 RdK (some (slot l8 26)) h fun v18 h =>
 RdK (some v5) h fun v19 h =>
 RdK (some (slot l8 29)) h fun v20 h =>
 RdK (indexAddrS none 2 v19 v20 h fun v _ => some v) h fun v21 h =>
 RdK (loadA none 2 v21 h fun v _ => some v) h fun v22 h =>
 RdK (some v15) h fun v23 h =>
 RdK (some v6) h fun v24 h =>
 CallW Try.prog 58 [v23, v24] h fun v25 h =>
 SameK ((reV (some (slot l8 26)) v18) && ((reV (some v5) v19) && ((reV (some (slot l8 29)) v20) && ((reV (indexAddrS none 2 v19 v20 h fun v _ => some v) v21) && ((reV (loadA none 2 v21 h fun v _ => some v) v22) && true))))) (RdK (fillB none [(0, 2), (2, 1)] [v22, v25] [(Value.int .i64 (0)), (Value.int .i64 (0)), (Value.int .i64 (0))] fun cs => some (Value.agg (Array.mk cs))) h fun v26 h =>
 AlK (fillB none [(0, 3)] [v26] (repeatL [(Value.int .i64 (0)), (Value.int .i64 (0)), (Value.int .i64 (0))] 1) fun cs => cellsK none cs 70 false fun o => some (o, sliceTo 1 1)) h fun v27 h =>
 appendB False 70 3 [(Value.int .i64 (0)), (Value.int .i64 (0)), (Value.int .i64 (0))] false v18 v27 h fun v28 h =>
 N11 [a0, v5, (slot l8 29), v13, v14, v15, v15, v15, v6, v16, v17, v18, v19, v20, v21, v22, v23, v24, v25, v26, v27, v28, v28] h)

noncomputable def rs_50_1 (v5 : Value) (l8 : List Value) (a0 : Value) (v6 : Value) (N11 : List Value → Heap → Prop) (h : Heap) : Prop :=
 indexAddrS False 2 v5 (slot l8 29) h fun v13 h =>
 loadA False 2 v13 h fun v14 h =>
 CallW Try.prog 70 [a0, v14] h fun v15 h =>
 CallW Try.prog 95 [v15, v6] h fun v16 h =>
 unB False .not v16 h fun v17 h =>
 CondW v17 (
 rs_50_0 l8 v5 v15 v6 N11 a0 v13 v14 v16 v17 h) (
 N11 [a0, v5, (slot l8 29), v13, v14, v15, v15, v15, v6, v16, v17, (slot l8 15), (slot l8 16), (slot l8 17), (slot l8 18), (slot l8 19), (slot l8 20), (slot l8 21), (slot l8 22), (slot l8 23), (slot l8 24), (slot l8 25), (slot l8 26)] h)

noncomputable def rs_50_2 (l8 : List Value) (b1 : Nat) (a0 : Value) (a2 : Value) (h : Heap) (κ : Value → Heap → Prop) : Prop :=
 RdK (some (slot l8 26)) h fun v30 h =>
 RdK (loadA none 2 (ptrTo b1) h fun v _ => some v) h fun v31 h =>
 RdK (some a0) h fun v32 h =>
 RdK (loadA none 2 (ptrTo b1) h fun v _ => some v) h fun v33 h =>
 RdK (some a2) h fun v34 h =>
 CallW Try.prog 70 [v32, v33] h fun v35 h =>
 SameK ((reV (some (slot l8 26)) v30) && ((reV (loadA none 2 (ptrTo b1) h fun v _ => some v) v31) && ((reV (some a2) v34) && true))) (CallW Try.prog 58 [v35, v34] h fun v36 h =>
 SameK ((reV (some (slot l8 26)) v30) && ((reV (loadA none 2 (ptrTo b1) h fun v _ => some v) v31) && true)) (RdK (fillB none [(0, 2), (2, 1)] [v31, v36] [(Value.int .i64 (0)), (Value.int .i64 (0)), (Value.int .i64 (0))] fun cs => some (Value.agg (Array.mk cs))) h fun v37 h =>
 AlK (fillB none [(0, 3)] [v37] (repeatL [(Value.int .i64 (0)), (Value.int .i64 (0)), (Value.int .i64 (0))] 1) fun cs => cellsK none cs 70 false fun o => some (o, sliceTo 1 1)) h fun v38 h =>
 appendB False 70 3 [(Value.int .i64 (0)), (Value.int .i64 (0)), (Value.int .i64 (0))] false v30 v38 h fun v39 h =>
 κ v39 h))

noncomputable def rs_50_3 (v5 : Value) (l8 : List Value) (a0 : Value) (v6 : Value) (N7 : List Value → Heap → Prop) (b1 : Nat) (a2 : Value) (h : Heap) (κ : Value → Heap → Prop) : Prop :=
 lenSli False v5 h fun v9 h =>
 binB False Try.prog .lss 3 false false (slot l8 29) v9 h fun v10 h =>
 CondW v10 (
 JoinR (fun N11 =>
 rs_50_1 v5 l8 a0 v6 N11 h) fun l12 h =>
 binB False Try.prog .add 3 true false (slot l8 29) (Value.int .i64 (1)) h fun v29 h =>
 N7 [(slot l8 29), v5, v9, v10, (slot l12 0), (slot l12 1), (slot l12 2), (slot l12 3), (slot l12 4), (slot l12 5), (slot l12 6), (slot l12 7), (slot l12 8), (slot l12 9), (slot l12 10), (slot l12 11), (slot l12 12), (slot l12 13), (slot l12 14), (slot l12 15), (slot l12 16), (slot l12 17), (slot l12 18), (slot l12 19), (slot l12 20), (slot l12 21), (slot l12 22), (slot l8 29), v29, v29] h) (
 rs_50_2 l8 b1 a0 a2 h κ)

/-- latchstring/latchstringref17.Plan -/
theorem rs_50 (a0 a1 a2 : Value) (h : Heap) (κ : Value → Heap → Prop) : BodyW Try.prog 50 [a0, a1, a2] h κ = (
 cellsK False (Value.cells a1).toList 27 false fun o0 => newBlock False o0 h fun b1 h =>
 loadA False 2 (ptrTo b1) h fun v2 h =>
 CallW Try.prog 92 [a0, v2, a2] h fun v3 h =>
 CondW v3 (
 κ (Value.slice none 0 0) h) (
 loadA False 2 (ptrTo b1) h fun v4 h =>
 CallW Try.prog 93 [v4] h fun v5 h =>
 CallW Try.prog 94 [a2] h fun v6 h =>
 LoopR [undef, undef, undef, undef, undef, undef, undef, undef, undef, undef, undef, undef, undef, undef, undef, undef, undef, undef, undef, undef, undef, undef, undef, undef, undef, undef, (Value.slice none 0 0), undef, undef, (Value.int .i64 (0))] h fun l8 h N7 =>
 rs_50_3 v5 l8 a0 v6 N7 b1 a2 h κ)) := by kernel_rfl

/-- latchstring/cache.Order -/
theorem rs_52 (a0 : Value) (h : Heap) (κ : Value → Heap → Prop) : BodyW Try.prog 52 [a0] h κ = (
 CallW Try.prog 81 [a0] h fun v0 h =>
 CallW Try.prog 90 [v0, (Value.func (.func 96) (Array.mk []) (Array.mk []))] h fun v1 h =>
 cellsK False [Value.nilFunc] 115 false fun o2 => newBlock False o2 h fun b3 h =>
 storeV False 1 (ptrTo b3) (Value.func (.func 98) (Array.mk []) (Array.mk [])) h fun v4 h =>
 CallW Try.prog 99 [v1, (Value.func (.func 100) (Array.mk []) (Array.mk [(ptrTo b3)]))] h fun v5 h =>
 κ v1 h) := by kernel_rfl

/-- latchstring/cache.Below -/
theorem rs_54 (a0 a1 : Value) (h : Heap) (κ : Value → Heap → Prop) : BodyW Try.prog 54 [a0, a1] h κ = (
 cellsK False (Value.cells a1).toList 27 false fun o0 => newBlock False o0 h fun b1 h =>
 CallW Try.prog 102 [a0, (Value.func (.func 103) (Array.mk []) (Array.mk [(ptrTo b1)]))] h fun v2 h =>
 κ v2 h) := by kernel_rfl

noncomputable def rs_58_0 (l10 : List Value) (a0 : Value) (a1 : Value) (N12 : List Value → Heap → Prop) (h : Heap) : Prop :=
 CallW Try.prog 43 [(slot l10 19), a0] h fun v14 h =>
 GuardW (wantV v14 true) (fun K15 =>
 K15 (slot l10 19) h) h fun v16 h =>
 GuardW (wantV v14 true) (fun K17 =>
 K17 a1 h) h fun v18 h =>
 GuardW (wantV v14 true) (fun K19 =>
 CallW Try.prog 43 [v16, v18] h K19) h fun v20 h =>
 pickB False v14 v20 (Value.bool false) h fun v21 h =>
 GuardW (wantV v21 true) (fun K22 =>
 K22 (slot l10 16) h) h fun v23 h =>
 GuardW (wantV v21 true) (fun K24 =>
 K24 (slot l10 19) h) h fun v25 h =>
 GuardW (wantV v21 true) (fun K26 =>
 CallW Try.prog 43 [v23, v25] h K26) h fun v27 h =>
 pickB False v21 v27 (Value.bool false) h fun v28 h =>
 CondW v28 (
 N12 [(slot l10 19), a0, v14, v14, v16, v18, v20, v21, v21, v23, v25, v27, v28, (slot l10 19), (slot l10 19)] h) (
 N12 [(slot l10 19), a0, v14, v14, v16, v18, v20, v21, v21, v23, v25, v27, v28, (slot l10 15), (slot l10 16)] h)

noncomputable def rs_58_1 (l10 : List Value) (a0 : Value) (a1 : Value) (N9 : List Value → Heap → Prop) (h : Heap) (κ : Value → Heap → Prop) : Prop :=
 binB False Try.prog .geq 28 true false (slot l10 19) (Value.int .i64 (0)) h fun v11 h =>
 CondW v11 (
 JoinR (fun N12 =>
 rs_58_0 l10 a0 a1 N12 h) fun l13 h =>
 binB False Try.prog .sub 28 true false (slot l10 19) (Value.int .i64 (1)) h fun v29 h =>
 N9 [(slot l10 19), v11, (slot l13 0), (slot l13 1), (slot l13 2), (slot l13 3), (slot l13 4), (slot l13 5), (slot l13 6), (slot l13 7), (slot l13 8), (slot l13 9), (slot l13 10), (slot l13 11), (slot l13 12), (slot l13 13), (slot l13 14), (slot l10 19), v29, v29] h) (
 κ (slot l10 16) h)

/-- latchstring/latchstringref01.Sup -/
theorem rs_58 (a0 a1 : Value) (h : Heap) (κ : Value → Heap → Prop) : BodyW Try.prog 58 [a0, a1] h κ = (
 CallW Try.prog 49 [a0] h fun v0 h =>
 unB False .not v0 h fun v1 h =>
 GuardW (wantV v1 false) (fun K2 =>
 K2 a1 h) h fun v3 h =>
 GuardW (wantV v1 false) (fun K4 =>
 CallW Try.prog 49 [v3] h K4) h fun v5 h =>
 GuardW (wantV v1 false) (fun K6 =>
 unB False .not v5 h K6) h fun v7 h =>
 pickB False v1 (Value.bool true) v7 h fun v8 h =>
 CondW v8 (
 κ (Value.int .i64 (0)) h) (
 LoopR [undef, undef, undef, undef, undef, undef, undef, undef, undef, undef, undef, undef, undef, undef, undef, undef, (Value.int .i64 (6)), undef, undef, (Value.int .i64 (6))] h fun l10 h N9 =>
 rs_58_1 l10 a0 a1 N9 h κ)) := by kernel_rfl

/-- latchstring/mode.Compatible -/
theorem rs_65 (a0 a1 : Value) (h : Heap) (κ : Value → Heap → Prop) : BodyW Try.prog 65 [a0, a1] h κ = (
 CallW Try.prog 122 [] h fun v0 h =>
 CallW Try.prog 123 [v0, a0, a1] h fun v1 h =>
 κ v1 h) := by kernel_rfl

/-- latchstring/latchstringref01.row -/
theorem rs_66 (a0 : Value) (h : Heap) (κ : Value → Heap → Prop) : BodyW Try.prog 66 [a0] h κ = (
 fillB False [(0, 1), (1, 1), (2, 1), (3, 1), (4, 1), (5, 1), (6, 1)] [(Value.string (ByteArray.mk (Array.mk [43, 43, 43, 43, 43, 43, 43]))), (Value.string (ByteArray.mk (Array.mk [43, 43, 43, 43, 43, 43, 46]))), (Value.string (ByteArray.mk (Array.mk [43, 43, 43, 46, 46, 46, 46]))), (Value.string (ByteArray.mk (Array.mk [43, 43, 46, 43, 46, 43, 46]))), (Value.string (ByteArray.mk (Array.mk [43, 43, 46, 46, 46, 46, 46]))), (Value.string (ByteArray.mk (Array.mk [43, 43, 46, 43, 46, 46, 46]))), (Value.string (ByteArray.mk (Array.mk [43, 46, 46, 46, 46, 46, 46])))] (repeatL [(Value.string (ByteArray.mk (Array.mk [])))] 7) fun cs2 => cellsK False cs2 9 false fun o0 => newBlock False o0 h fun b1 h =>
 indexAddrS False 1 (sliceTo 7 7 b1) a0 h fun v3 h =>
 load1 False v3 h fun v4 h =>
 κ v4 h) := by kernel_rfl

/-- latchstring/latchstringkit.DB -/
theorem rs_67 (h : Heap) (κ : Value → Heap → Prop) : BodyW Try.prog 67 [] h κ = (
 cellsK False [(Value.int .i64 (0)), (Value.int .i64 (0))] 27 false fun o0 => newBlock False o0 h fun b1 h =>
 fillB False [(0, 1), (1, 1)] [(Value.int .i64 (-1)), (Value.int .i64 (-1))] [(Value.int .i64 (0)), (Value.int .i64 (0))] fun cs2 =>
 storeV False 2 (ptrTo b1) (Value.agg (Array.mk cs2)) h fun v3 h =>
 loadA False 2 (ptrTo b1) h fun v4 _ => κ v4 h) := by kernel_rfl

/-- latchstring/latchstringkit.R -/
theorem rs_73 (a0 a1 : Value) (h : Heap) (κ : Value → Heap → Prop) : BodyW Try.prog 73 [a0, a1] h κ = (
 cellsK False [(Value.int .i64 (0)), (Value.int .i64 (0))] 27 false fun o0 => newBlock False o0 h fun b1 h =>
 fillB False [(0, 1), (1, 1)] [a0, a1] [(Value.int .i64 (0)), (Value.int .i64 (0))] fun cs2 =>
 storeV False 2 (ptrTo b1) (Value.agg (Array.mk cs2)) h fun v3 h =>
 loadA False 2 (ptrTo b1) h fun v4 _ => κ v4 h) := by kernel_rfl

noncomputable def rs_74_0 (a0 : Value) (l4 : List Value) (a1 : Value) (N3 : List Value → Heap → Prop) (v5 : Value) (v6 : Value) (h : Heap) (κ : Value → Heap → Prop) : Prop :=
 RdK (some a0) h fun v7 h =>
 RdK (some (slot l4 16)) h fun v8 h =>
 RdK (indexAddrS none 3 v7 v8 h fun v _ => some v) h fun v9 h =>
 RdK (loadA none 3 v9 h fun v _ => some v) h fun v10 h =>
 RdK (some a1) h fun v11 h =>
 RdK (some (slot l4 16)) h fun v12 h =>
 RdK (indexAddrS none 3 v11 v12 h fun v _ => some v) h fun v13 h =>
 RdK (loadA none 3 v13 h fun v _ => some v) h fun v14 h =>
 RdK (binB none Try.prog .neq 70 false false v10 v14 h fun v _ => some v) h fun v15 h =>
 CondW v15 (
 κ (Value.bool false) h) (
 binB False Try.prog .add 3 true false (slot l4 16) (Value.int .i64 (1)) h fun v16 h =>
 N3 [(slot l4 16), a0, v5, v6, v7, v8, v9, v10, v11, v12, v13, v14, v15, (slot l4 13), (slot l4 16), v16, v16] h)

/-- latchstring/latchstringkit.Same[latchstring/api.Need] -/
theorem rs_74 (a0 a1 : Value) (h : Heap) (κ : Value → Heap → Prop) : BodyW Try.prog 74 [a0, a1] h κ = (
 lenSli False a0 h fun v0 h =>
 lenSli False a1 h fun v1 h =>
 binB False Try.prog .neq 3 false false v0 v1 h fun v2 h =>
 CondW v2 (
 κ (Value.bool false) h) (
 LoopR [undef, undef, undef, undef, undef, undef, undef, undef, undef, undef, undef, undef, undef, (Value.bool false), undef, undef, (Value.int .i64 (0))] h fun l4 h N3 =>
 lenSli False a0 h fun v5 h =>
 binB False Try.prog .lss 3 false false (slot l4 16) v5 h fun v6 h =>
 CondW v6 (
 rs_74_0 a0 l4 a1 N3 v5 v6 h κ) (
 κ (Value.bool true) h))) := by kernel_rfl

noncomputable def rs_75_0 (a0 : Value) (N6 : List Value → Heap → Prop) (v8 : Value) (h : Heap) : Prop :=
 binB False Try.prog .eql 28 true false a0 (Value.int .i64 (4)) h fun v9 h =>
 CondW v9 (
 N6 [v8, v9, undef, undef, v9] h) (
 binB False Try.prog .eql 28 true false a0 (Value.int .i64 (5)) h fun v10 h =>
 CondW v10 (
 N6 [v8, v9, v10, undef, v10] h) (
 binB False Try.prog .eql 28 true false a0 (Value.int .i64 (6)) h fun v11 h =>
 N6 [v8, v9, v10, v11, v11] h))

noncomputable def rs_75_1 (a0 : Value) (N0 : List Value → Heap → Prop) (l3 : List Value) (h : Heap) (κ : Value → Heap → Prop) : Prop :=
 JoinR (fun N6 =>
 binB False Try.prog .eql 28 true false a0 (Value.int .i64 (2)) h fun v8 h =>
 CondW v8 (
 N6 [v8, undef, undef, undef, v8] h) (
 rs_75_0 a0 N6 v8 h)) fun l7 h =>
 CondW (slot l7 4) (
 κ (Value.int .i64 (2)) h) (
 N0 [a0, (slot l3 0), (slot l3 1), (slot l3 2), (slot l7 0), (slot l7 1), (slot l7 2), (slot l7 3), (slot l7 4), (Value.int .i64 (0))] h)

noncomputable def rs_75_2 (a0 : Value) (N0 : List Value → Heap → Prop) (h : Heap) (κ : Value → Heap → Prop) : Prop :=
 JoinR (fun N2 =>
 binB False Try.prog .eql 28 true false a0 (Value.int .i64 (1)) h fun v4 h =>
 CondW v4 (
 N2 [v4, undef, v4] h) (
 binB False Try.prog .eql 28 true false a0 (Value.int .i64 (3)) h fun v5 h =>
 N2 [v4, v5, v5] h)) fun l3 h =>
 CondW (slot l3 2) (
 κ (Value.int .i64 (1)) h) (
 rs_75_1 a0 N0 l3 h κ)

/-- latchstring/mode.Parent -/
theorem rs_75 (a0 : Value) (h : Heap) (κ : Value → Heap → Prop) : BodyW Try.prog 75 [a0] h κ = (
 JoinR (fun N0 =>
 rs_75_2 a0 N0 h κ) fun l1 h =>
 κ (Value.int .i64 (0)) h) := by kernel_rfl

/-- latchstring/name.Ancestors -/
theorem rs_76 (a0 : Value) (h : Heap) (κ : Value → Heap → Prop) : BodyW Try.prog 76 [a0] h κ = (
 cellsK False (Value.cells a0).toList 27 false fun o0 => newBlock False o0 h fun b1 h =>
 RdK (fieldAddrB none 0 (ptrTo b1) h fun v _ => some v) h fun v2 h =>
 RdK (load1 none v2 h fun v _ => some v) h fun v3 h =>
 RdK (fillB none [(0, 1), (1, 1)] [v3, (Value.int .i64 (-1))] [(Value.int .i64 (0)), (Value.int .i64 (0))] fun cs => some (Value.agg (Array.mk cs))) h fun v4 h =>
 CallW Try.prog 124 [] h fun v5 h =>
 SameK ((reV (fieldAddrB none 0 (ptrTo b1) h fun v _ => some v) v2) && ((reV (load1 none v2 h fun v _ => some v) v3) && ((reV (fillB none [(0, 1), (1, 1)] [v3, (Value.int .i64 (-1))] [(Value.int .i64 (0)), (Value.int .i64 (0))] fun cs => some (Value.agg (Array.mk cs))) v4) && true))) (AlK (fillB none [(0, 2), (2, 2)] [v5, v4] (repeatL [(Value.int .i64 (0)), (Value.int .i64 (0))] 2) fun cs => cellsK none cs 27 false fun o => some (o, sliceTo 2 2)) h fun v6 h =>
 loadA False 2 (ptrTo b1) h fun v7 h =>
 CallW Try.prog 68 [v7] h fun v8 h =>
 maxB False v8 (Value.int .i64 (0)) h fun v9 h =>
 sliceB False 27 2 v6 none (some v9) none h fun v10 h =>
 κ v10 h)) := by kernel_rfl

/-- latchstring/mode.Covers -/
theorem rs_77 (a0 a1 : Value) (h : Heap) (κ : Value → Heap → Prop) : BodyW Try.prog 77 [a0, a1] h κ = (
 CallW Try.prog 126 [] h fun v0 h =>
 CallW Try.prog 123 [v0, a0, a1] h fun v1 h =>
 κ v1 h) := by kernel_rfl

noncomputable def rs_78_0 (a0 : Value) (a1 : Value) (h : Heap) (κ : Value → Heap → Prop) : Prop :=
 CallW Try.prog 77 [(Value.int .i64 (4)), a0] h fun v11 h =>
 GuardW (wantV v11 true) (fun K12 =>
 K12 a1 h) h fun v13 h =>
 GuardW (wantV v11 true) (fun K14 =>
 CallW Try.prog 77 [(Value.int .i64 (4)), v13] h K14) h fun v15 h =>
 pickB False v11 v15 (Value.bool false) h fun v16 h =>
 CondW v16 (
 κ (Value.int .i64 (4)) h) (
 κ (Value.int .i64 (6)) h)

noncomputable def rs_78_1 (a0 : Value) (a1 : Value) (h : Heap) (κ : Value → Heap → Prop) : Prop :=
 CallW Try.prog 77 [a0, a1] h fun v9 h =>
 CondW v9 (
 κ a0 h) (
 CallW Try.prog 77 [a1, a0] h fun v10 h =>
 CondW v10 (
 κ a1 h) (
 rs_78_0 a0 a1 h κ))

/-- latchstring/mode.Sup -/
theorem rs_78 (a0 a1 : Value) (h : Heap) (κ : Value → Heap → Prop) : BodyW Try.prog 78 [a0, a1] h κ = (
 CallW Try.prog 127 [a0] h fun v0 h =>
 unB False .not v0 h fun v1 h =>
 GuardW (wantV v1 false) (fun K2 =>
 K2 a1 h) h fun v3 h =>
 GuardW (wantV v1 false) (fun K4 =>
 CallW Try.prog 127 [v3] h K4) h fun v5 h =>
 GuardW (wantV v1 false) (fun K6 =>
 unB False .not v5 h K6) h fun v7 h =>
 pickB False v1 (Value.bool true) v7 h fun v8 h =>
 CondW v8 (
 κ (Value.int .i64 (0)) h) (
 rs_78_1 a0 a1 h κ)) := by kernel_rfl

/-- latchstring/latchstringref01.under -/
theorem rs_80 (a0 : Value) (h : Heap) (κ : Value → Heap → Prop) : BodyW Try.prog 80 [a0] h κ = (
 fillB False [(0, 1), (1, 1), (2, 1), (3, 1), (4, 1), (5, 1), (6, 1)] [(Value.string (ByteArray.mk (Array.mk [43, 46, 46, 46, 46, 46, 46]))), (Value.string (ByteArray.mk (Array.mk [43, 43, 46, 46, 46, 46, 46]))), (Value.string (ByteArray.mk (Array.mk [43, 43, 43, 46, 46, 46, 46]))), (Value.string (ByteArray.mk (Array.mk [43, 43, 46, 43, 46, 46, 46]))), (Value.string (ByteArray.mk (Array.mk [43, 43, 43, 43, 43, 46, 46]))), (Value.string (ByteArray.mk (Array.mk [43, 43, 46, 43, 46, 43, 46]))), (Value.string (ByteArray.mk (Array.mk [43, 43, 43, 43, 43, 43, 43])))] (repeatL [(Value.string (ByteArray.mk (Array.mk [])))] 7) fun cs2 => cellsK False cs2 9 false fun o0 => newBlock False o0 h fun b1 h =>
 indexAddrS False 1 (sliceTo 7 7 b1) a0 h fun v3 h =>
 load1 False v3 h fun v4 h =>
 κ v4 h) := by kernel_rfl

-- 85 slices.Insert[[]latchstring/api.Held,latchstring/api.Held]: UNSUPPORTED builtin Go.Builtin.cap
/-- latchstring/cache.asked -/
theorem rs_86 (a0 a1 : Value) (h : Heap) (κ : Value → Heap → Prop) : BodyW Try.prog 86 [a0, a1] h κ = (
 cellsK False (Value.cells a0).toList 27 false fun o0 => newBlock False o0 h fun b1 h =>
 loadA False 2 (ptrTo b1) h fun v2 h =>
 CallW Try.prog 97 [v2] h fun v3 h =>
 binB False Try.prog .eql 36 true false v3 (Value.int .i64 (0)) h fun v4 h =>
 GuardW (wantV v4 true) (fun K5 =>
 K5 a1 h) h fun v6 h =>
 GuardW (wantV v4 true) (fun K7 =>
 CallW Try.prog 127 [v6] h K7) h fun v8 h =>
 pickB False v4 v8 (Value.bool false) h fun v9 h =>
 GuardW (wantV v9 true) (fun K10 =>
 K10 a1 h) h fun v11 h =>
 GuardW (wantV v9 true) (fun K12 =>
 binB False Try.prog .neq 28 true false v11 (Value.int .i64 (0)) h K12) h fun v13 h =>
 pickB False v9 v13 (Value.bool false) h fun v14 h =>
 κ v14 h) := by kernel_rfl

/-- slices.ContainsFunc[[]latchstring/api.Name,latchstring/api.Name] -/
theorem rs_87 (a0 a1 : Value) (h : Heap) (κ : Value → Heap → Prop) : BodyW Try.prog 87 [a0, a1] h κ = (
 CallW Try.prog 133 [a0, a1] h fun v0 h =>
 binB False Try.prog .geq 3 true false v0 (Value.int .i64 (0)) h fun v1 h =>
 κ v1 h) := by kernel_rfl

/-- latchstring/cache.Implied$1 -/
theorem rs_88 (a0 a1 a2 : Value) (h : Heap) (κ : Value → Heap → Prop) : BodyW Try.prog 88 [a0, a1, a2] h κ = (
 cellsK False (Value.cells a0).toList 27 false fun o0 => newBlock False o0 h fun b1 h =>
 RdK (load1 none a1 h fun v _ => some v) h fun v2 h =>
 RdK (loadA none 2 (ptrTo b1) h fun v _ => some v) h fun v3 h =>
 RdK (load1 none a2 h fun v _ => some v) h fun v4 h =>
 CallW Try.prog 42 [v2, v3] h fun v5 h =>
 SameK ((reV (load1 none a2 h fun v _ => some v) v4) && true) (CallW Try.prog 89 [v5, v4] h fun v6 h =>
 κ v6 h)) := by kernel_rfl

noncomputable def rs_89_0 (a0 : Value) (N2 : List Value → Heap → Prop) (v6 : Value) (v7 : Value) (N4 : List Value → Heap → Prop) (h : Heap) : Prop :=
 JoinR (fun N8 =>
 binB False Try.prog .eql 28 true false a0 (Value.int .i64 (4)) h fun v10 h =>
 CondW v10 (
 N8 [v10, undef, v10] h) (
 binB False Try.prog .eql 28 true false a0 (Value.int .i64 (5)) h fun v11 h =>
 N8 [v10, v11, v11] h)) fun l9 h =>
 CondW (slot l9 2) (
 N2 [v6, v6, v7, v7, (slot l9 0), (slot l9 1), (slot l9 2), (Value.bool false)] h) (
 N4 [v6, v6, v7, v7, (slot l9 0), (slot l9 1), (slot l9 2)] h)

noncomputable def rs_89_1 (a0 : Value) (N2 : List Value → Heap → Prop) (N4 : List Value → Heap → Prop) (h : Heap) (κ : Value → Heap → Prop) : Prop :=
 binB False Try.prog .eql 28 true false a0 (Value.int .i64 (6)) h fun v6 h =>
 CondW v6 (
 κ (Value.bool true) h) (
 binB False Try.prog .eql 28 true false a0 (Value.int .i64 (3)) h fun v7 h =>
 CondW v7 (
 N2 [v6, v6, v7, v7, undef, undef, undef, (Value.bool false)] h) (
 rs_89_0 a0 N2 v6 v7 N4 h))

noncomputable def rs_89_2 (a1 : Value) (h : Heap) (κ : Value → Heap → Prop) : Prop :=
 binB False Try.prog .eql 28 true false a1 (Value.int .i64 (1)) h fun v12 h =>
 GuardW (wantV v12 false) (fun K13 =>
 K13 a1 h) h fun v14 h =>
 GuardW (wantV v12 false) (fun K15 =>
 binB False Try.prog .eql 28 true false v14 (Value.int .i64 (3)) h K15) h fun v16 h =>
 pickB False v12 (Value.bool true) v16 h fun v17 h =>
 κ v17 h

/-- latchstring/cache.lets -/
theorem rs_89 (a0 a1 : Value) (h : Heap) (κ : Value → Heap → Prop) : BodyW Try.prog 89 [a0, a1] h κ = (
 JoinR (fun N0 =>
 JoinR (fun N2 =>
 JoinR (fun N4 =>
 rs_89_1 a0 N2 N4 h κ) fun l5 h =>
 N0 [a0, (slot l5 0), (slot l5 1), (slot l5 2), (slot l5 3), (slot l5 4), (slot l5 5), (slot l5 6), undef, undef, undef, undef, undef, undef, (Value.bool false)] h) fun l3 h =>
 rs_89_2 a1 h κ) fun l1 h =>
 κ (Value.bool false) h) := by kernel_rfl

noncomputable def rs_92_0 (v28 : Value) (l30 : List Value) (a0 : Value) (a2 : Value) (N29 : List Value → Heap → Prop) (v31 : Value) (v32 : Value) (h : Heap) (κ : Value → Heap → Prop) : Prop :=
 indexAddrS False 2 v28 (slot l30 36) h fun v33 h =>
 loadA False 2 v33 h fun v34 h =>
 CallW Try.prog 70 [a0, v34] h fun v35 h =>
 binB False Try.prog .eql 28 true false v35 (Value.int .i64 (6)) h fun v36 h =>
 GuardW (wantV v36 false) (fun K37 =>
 K37 v35 h) h fun v38 h =>
 GuardW (wantV v36 false) (fun K39 =>
 binB False Try.prog .eql 28 true false v38 (Value.int .i64 (3)) h K39) h fun v40 h =>
 GuardW (wantV v36 false) (fun K41 =>
 K41 v40 h) h fun v42 h =>
 GuardW (wantV v42 false) (fun K43 =>
 K43 v35 h) h fun v44 h =>
 GuardW (wantV v42 false) (fun K45 =>
 binB False Try.prog .eql 28 true false v44 (Value.int .i64 (4)) h K45) h fun v46 h =>
 GuardW (wantV v36 false) (fun K47 =>
 pickB False v42 (Value.bool true) v46 h K47) h fun v48 h =>
 GuardW (wantV v36 false) (fun K49 =>
 K49 v48 h) h fun v50 h =>
 GuardW (wantV v50 false) (fun K51 =>
 K51 v35 h) h fun v52 h =>
 GuardW (wantV v50 false) (fun K53 =>
 binB False Try.prog .eql 28 true false v52 (Value.int .i64 (5)) h K53) h fun v54 h =>
 GuardW (wantV v36 false) (fun K55 =>
 pickB False v50 (Value.bool true) v54 h K55) h fun v56 h =>
 GuardW (wantV v36 false) (fun K57 =>
 K57 v56 h) h fun v58 h =>
 GuardW (wantV v58 true) (fun K59 =>
 K59 a2 h) h fun v60 h =>
 GuardW (wantV v58 true) (fun K61 =>
 binB False Try.prog .eql 28 true false v60 (Value.int .i64 (3)) h K61) h fun v62 h =>
 GuardW (wantV v58 true) (fun K63 =>
 K63 v62 h) h fun v64 h =>
 GuardW (wantV v64 false) (fun K65 =>
 K65 a2 h) h fun v66 h =>
 GuardW (wantV v64 false) (fun K67 =>
 binB False Try.prog .eql 28 true false v66 (Value.int .i64 (1)) h K67) h fun v68 h =>
 GuardW (wantV v58 true) (fun K69 =>
 pickB False v64 (Value.bool true) v68 h K69) h fun v70 h =>
 GuardW (wantV v36 false) (fun K71 =>
 pickB False v58 v70 (Value.bool false) h K71) h fun v72 h =>
 pickB False v36 (Value.bool true) v72 h fun v73 h =>
 CondW v73 (
 κ (Value.bool true) h) (
 binB False Try.prog .add 3 true false (slot l30 36) (Value.int .i64 (1)) h fun v74 h =>
 N29 [(slot l30 36), v28, v31, v32, a0, v28, (slot l30 36), v33, v34, v35, v35, v35, v36, v36, v38, v40, v42, v44, v46, v48, v50, v52, v54, v56, v58, v60, v62, v64, v66, v68, v70, v72, v73, (slot l30 33), (slot l30 36), v74, v74] h)

noncomputable def rs_92_1 (b1 : Nat) (a0 : Value) (a2 : Value) (h : Heap) (κ : Value → Heap → Prop) : Prop :=
 loadA False 2 (ptrTo b1) h fun v27 h =>
 CallW Try.prog 93 [v27] h fun v28 h =>
 LoopR [undef, undef, undef, undef, undef, undef, undef, undef, undef, undef, undef, undef, undef, undef, undef, undef, undef, undef, undef, undef, undef, undef, undef, undef, undef, undef, undef, undef, undef, undef, undef, undef, undef, (Value.bool false), undef, undef, (Value.int .i64 (0))] h fun l30 h N29 =>
 lenSli False v28 h fun v31 h =>
 binB False Try.prog .lss 3 false false (slot l30 36) v31 h fun v32 h =>
 CondW v32 (
 rs_92_0 v28 l30 a0 a2 N29 v31 v32 h κ) (
 κ (Value.bool false) h)

noncomputable def rs_92_2 (b1 : Nat) (a0 : Value) (a2 : Value) (h : Heap) (κ : Value → Heap → Prop) : Prop :=
 loadA False 2 (ptrTo b1) h fun v17 h =>
 CallW Try.prog 70 [a0, v17] h fun v18 h =>
 binB False Try.prog .neq 28 true false v18 (Value.int .i64 (0)) h fun v19 h =>
 GuardW (wantV v19 true) (fun K20 =>
 K20 v18 h) h fun v21 h =>
 GuardW (wantV v19 true) (fun K22 =>
 K22 a2 h) h fun v23 h =>
 GuardW (wantV v19 true) (fun K24 =>
 CallW Try.prog 43 [v21, v23] h K24) h fun v25 h =>
 pickB False v19 v25 (Value.bool false) h fun v26 h =>
 CondW v26 (
 κ (Value.bool true) h) (
 rs_92_1 b1 a0 a2 h κ)

/-- latchstring/latchstringref17.Implied -/
theorem rs_92 (a0 a1 a2 : Value) (h : Heap) (κ : Value → Heap → Prop) : BodyW Try.prog 92 [a0, a1, a2] h κ = (
 cellsK False (Value.cells a1).toList 27 false fun o0 => newBlock False o0 h fun b1 h =>
 loadA False 2 (ptrTo b1) h fun v2 h =>
 CallW Try.prog 57 [v2] h fun v3 h =>
 binB False Try.prog .neq 36 true false v3 (Value.int .i64 (0)) h fun v4 h =>
 GuardW (wantV v4 false) (fun K5 =>
 K5 a2 h) h fun v6 h =>
 GuardW (wantV v4 false) (fun K7 =>
 binB False Try.prog .eql 28 true false v6 (Value.int .i64 (0)) h K7) h fun v8 h =>
 pickB False v4 (Value.bool true) v8 h fun v9 h =>
 GuardW (wantV v9 false) (fun K10 =>
 K10 a2 h) h fun v11 h =>
 GuardW (wantV v9 false) (fun K12 =>
 CallW Try.prog 49 [v11] h K12) h fun v13 h =>
 GuardW (wantV v9 false) (fun K14 =>
 unB False .not v13 h K14) h fun v15 h =>
 pickB False v9 (Value.bool true) v15 h fun v16 h =>
 CondW v16 (
 κ (Value.bool true) h) (
 rs_92_2 b1 a0 a2 h κ)) := by kernel_rfl

noncomputable def rs_93_0 (v3 : Value) (b1 : Nat) (h : Heap) (κ : Value → Heap → Prop) : Prop :=
 binB False Try.prog .eql 3 true false v3 (Value.int .i64 (2)) h fun v9 h =>
 CondW v9 (
 RdK (fieldAddrB none 0 (ptrTo b1) h fun v _ => some v) h fun v10 h =>
 RdK (load1 none v10 h fun v _ => some v) h fun v11 h =>
 RdK (fillB none [(0, 1), (1, 1)] [v11, (Value.int .i64 (-1))] [(Value.int .i64 (0)), (Value.int .i64 (0))] fun cs => some (Value.agg (Array.mk cs))) h fun v12 h =>
 CallW Try.prog 101 [] h fun v13 h =>
 SameK ((reV (fieldAddrB none 0 (ptrTo b1) h fun v _ => some v) v10) && ((reV (load1 none v10 h fun v _ => some v) v11) && ((reV (fillB none [(0, 1), (1, 1)] [v11, (Value.int .i64 (-1))] [(Value.int .i64 (0)), (Value.int .i64 (0))] fun cs => some (Value.agg (Array.mk cs))) v12) && true))) (AlK (fillB none [(0, 2), (2, 2)] [v13, v12] (repeatL [(Value.int .i64 (0)), (Value.int .i64 (0))] 2) fun cs => cellsK none cs 27 false fun o => some (o, sliceTo 2 2)) h fun v14 h =>
 κ v14 h)) (
 κ (Value.slice none 0 0) h)

/-- latchstring/latchstringref02.Ancestors -/
theorem rs_93 (a0 : Value) (h : Heap) (κ : Value → Heap → Prop) : BodyW Try.prog 93 [a0] h κ = (
 cellsK False (Value.cells a0).toList 27 false fun o0 => newBlock False o0 h fun b1 h =>
 loadA False 2 (ptrTo b1) h fun v2 h =>
 CallW Try.prog 53 [v2] h fun v3 h =>
 binB False Try.prog .eql 3 true false v3 (Value.int .i64 (1)) h fun v4 h =>
 CondW v4 (
 CallW Try.prog 101 [] h fun v5 h =>
 fillB False [(0, 2)] [v5] (repeatL [(Value.int .i64 (0)), (Value.int .i64 (0))] 1) fun cs8 => cellsK False cs8 27 false fun o6 => newBlock False o6 h fun b7 h =>
 κ (sliceTo 1 1 b7) h) (
 rs_93_0 v3 b1 h κ)) := by kernel_rfl

noncomputable def rs_94_0 (a0 : Value) (N6 : List Value → Heap → Prop) (v8 : Value) (h : Heap) : Prop :=
 binB False Try.prog .eql 28 true false a0 (Value.int .i64 (4)) h fun v9 h =>
 CondW v9 (
 N6 [v8, v9, undef, undef, v9] h) (
 binB False Try.prog .eql 28 true false a0 (Value.int .i64 (5)) h fun v10 h =>
 CondW v10 (
 N6 [v8, v9, v10, undef, v10] h) (
 binB False Try.prog .eql 28 true false a0 (Value.int .i64 (6)) h fun v11 h =>
 N6 [v8, v9, v10, v11, v11] h))

noncomputable def rs_94_1 (a0 : Value) (N0 : List Value → Heap → Prop) (l3 : List Value) (h : Heap) (κ : Value → Heap → Prop) : Prop :=
 JoinR (fun N6 =>
 binB False Try.prog .eql 28 true false a0 (Value.int .i64 (2)) h fun v8 h =>
 CondW v8 (
 N6 [v8, undef, undef, undef, v8] h) (
 rs_94_0 a0 N6 v8 h)) fun l7 h =>
 CondW (slot l7 4) (
 κ (Value.int .i64 (2)) h) (
 N0 [a0, (slot l3 0), (slot l3 1), (slot l3 2), (slot l7 0), (slot l7 1), (slot l7 2), (slot l7 3), (slot l7 4), (Value.int .i64 (0))] h)

noncomputable def rs_94_2 (a0 : Value) (N0 : List Value → Heap → Prop) (h : Heap) (κ : Value → Heap → Prop) : Prop :=
 JoinR (fun N2 =>
 binB False Try.prog .eql 28 true false a0 (Value.int .i64 (1)) h fun v4 h =>
 CondW v4 (
 N2 [v4, undef, v4] h) (
 binB False Try.prog .eql 28 true false a0 (Value.int .i64 (3)) h fun v5 h =>
 N2 [v4, v5, v5] h)) fun l3 h =>
 CondW (slot l3 2) (
 κ (Value.int .i64 (1)) h) (
 rs_94_1 a0 N0 l3 h κ)

/-- latchstring/latchstringref01.Parent -/
theorem rs_94 (a0 : Value) (h : Heap) (κ : Value → Heap → Prop) : BodyW Try.prog 94 [a0] h κ = (
 JoinR (fun N0 =>
 rs_94_2 a0 N0 h κ) fun l1 h =>
 κ (Value.int .i64 (0)) h) := by kernel_rfl

/-- latchstring/latchstringref17.covers -/
theorem rs_95 (a0 a1 : Value) (h : Heap) (κ : Value → Heap → Prop) : BodyW Try.prog 95 [a0, a1] h κ = (
 binB False Try.prog .neq 28 true false a0 (Value.int .i64 (0)) h fun v0 h =>
 GuardW (wantV v0 true) (fun K1 =>
 K1 a0 h) h fun v2 h =>
 GuardW (wantV v0 true) (fun K3 =>
 K3 a1 h) h fun v4 h =>
 GuardW (wantV v0 true) (fun K5 =>
 CallW Try.prog 43 [v2, v4] h K5) h fun v6 h =>
 pickB False v0 v6 (Value.bool false) h fun v7 h =>
 κ v7 h) := by kernel_rfl

/-- latchstring/cache.Order$1 -/
theorem rs_96 (a0 : Value) (h : Heap) (κ : Value → Heap → Prop) : BodyW Try.prog 96 [a0] h κ = (
 cellsK False (Value.cells a0).toList 30 false fun o0 => newBlock False o0 h fun b1 h =>
 fieldAddrB False 1 (ptrTo b1) h fun v2 h =>
 loadA False 2 v2 h fun v3 h =>
 CallW Try.prog 97 [v3] h fun v4 h =>
 binB False Try.prog .neq 36 true false v4 (Value.int .i64 (0)) h fun v5 h =>
 κ v5 h) := by kernel_rfl

/-- (latchstring/cache.locks).compare -/
theorem rs_98 (a0 a1 a2 : Value) (h : Heap) (κ : Value → Heap → Prop) : BodyW Try.prog 98 [a0, a1, a2] h κ = (
 cellsK False (Value.cells a0).toList 118 false fun o0 => newBlock False o0 h fun b1 h =>
 cellsK False (Value.cells a1).toList 30 false fun o2 => newBlock False o2 h fun b3 h =>
 cellsK False (Value.cells a2).toList 30 false fun o4 => newBlock False o4 h fun b5 h =>
 RdK (fieldAddrB none 1 (ptrTo b5) h fun v _ => some v) h fun v6 h =>
 RdK (loadA none 2 v6 h fun v _ => some v) h fun v7 h =>
 RdK (fieldAddrB none 1 (ptrTo b3) h fun v _ => some v) h fun v8 h =>
 RdK (loadA none 2 v8 h fun v _ => some v) h fun v9 h =>
 CallW Try.prog 68 [v7] h fun v10 h =>
 SameK ((reV (fieldAddrB none 1 (ptrTo b3) h fun v _ => some v) v8) && ((reV (loadA none 2 v8 h fun v _ => some v) v9) && true)) (CallW Try.prog 68 [v9] h fun v11 h =>
 RdK (binB none Try.prog .sub 3 false false v10 v11 h fun v _ => some v) h fun v12 h =>
 binB False Try.prog .neq 3 true false v12 (Value.int .i64 (0)) h fun v13 h =>
 CondW v13 (
 κ v12 h) (
 fieldAddrB False 1 (ptrTo b3) h fun v14 h =>
 loadA False 2 v14 h fun v15 h =>
 fieldAddrB False 1 (ptrTo b5) h fun v16 h =>
 loadA False 2 v16 h fun v17 h =>
 CallW Try.prog 84 [v15, v17] h fun v18 h =>
 κ v18 h))) := by kernel_rfl

/-- slices.SortStableFunc[[]latchstring/api.Held,latchstring/api.Held] -/
theorem rs_99 (a0 a1 : Value) (h : Heap) (κ : Value → Heap → Prop) : BodyW Try.prog 99 [a0, a1] h κ = (
 lenSli False a0 h fun v0 h =>
 CallW Try.prog 134 [a0, v0, a1] h fun v1 h =>
 κ (Value.tuple (Array.mk [])) h) := by kernel_rfl

/-- latchstring/cache.Order$2 -/
theorem rs_100 (a0 a1 a2 : Value) (h : Heap) (κ : Value → Heap → Prop) : BodyW Try.prog 100 [a0, a1, a2] h κ = (
 cellsK False (Value.cells a0).toList 30 false fun o0 => newBlock False o0 h fun b1 h =>
 cellsK False (Value.cells a1).toList 30 false fun o2 => newBlock False o2 h fun b3 h =>
 load1 False a2 h fun v4 h =>
 fillB False [] [] [] fun cs5 =>
 loadA False 4 (ptrTo b1) h fun v6 h =>
 loadA False 4 (ptrTo b3) h fun v7 h =>
 CallV Try.prog v4 [(Value.agg (Array.mk cs5)), v6, v7] h fun v8 h =>
 κ v8 h) := by kernel_rfl

/-- slices.ContainsFunc[[]latchstring/api.Held,latchstring/api.Held] -/
theorem rs_102 (a0 a1 : Value) (h : Heap) (κ : Value → Heap → Prop) : BodyW Try.prog 102 [a0, a1] h κ = (
 CallW Try.prog 82 [a0, a1] h fun v0 h =>
 binB False Try.prog .geq 3 true false v0 (Value.int .i64 (0)) h fun v1 h =>
 κ v1 h) := by kernel_rfl

/-- latchstring/cache.Below$1 -/
theorem rs_103 (a0 a1 : Value) (h : Heap) (κ : Value → Heap → Prop) : BodyW Try.prog 103 [a0, a1] h κ = (
 cellsK False (Value.cells a0).toList 30 false fun o0 => newBlock False o0 h fun b1 h =>
 RdK (fieldAddrB none 1 (ptrTo b1) h fun v _ => some v) h fun v2 h =>
 RdK (loadA none 2 v2 h fun v _ => some v) h fun v3 h =>
 RdK (loadA none 2 a1 h fun v _ => some v) h fun v4 h =>
 CallW Try.prog 76 [v3] h fun v5 h =>
 SameK ((reV (loadA none 2 a1 h fun v _ => some v) v4) && true) (CallW Try.prog 104 [v5, v4] h fun v6 h =>
 κ v6 h)) := by kernel_rfl

/-- slices.Contains[[]latchstring/api.Name,latchstring/api.Name] -/
theorem rs_104 (a0 a1 : Value) (h : Heap) (κ : Value → Heap → Prop) : BodyW Try.prog 104 [a0, a1] h κ = (
 cellsK False (Value.cells a1).toList 27 false fun o0 => newBlock False o0 h fun b1 h =>
 loadA False 2 (ptrTo b1) h fun v2 h =>
 CallW Try.prog 135 [a0, v2] h fun v3 h =>
 binB False Try.prog .geq 3 true false v3 (Value.int .i64 (0)) h fun v4 h =>
 κ v4 h) := by kernel_rfl

end Go.Proofs
