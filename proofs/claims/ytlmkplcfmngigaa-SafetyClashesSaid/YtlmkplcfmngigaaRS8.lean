/-
  PROVED HERE: a part of the proof, by a calculus of weakest conditions over an abstract heap.
-/
import Derived.Test.YtlmkplcfmngigaaVaiL
import Derived.Test.YtlmkplcfmngigaaProg
import Derived.KernelRfl
set_option maxRecDepth 100000
set_option linter.unusedVariables false
namespace Go.Proofs
open Go.Vai

noncomputable def rs_3_0 (a0 : Value) (l56 : List Value) (l61 : List Value) (v7 : Value) (v5 : Value) (v6 : Value) (N60 : List Value → Heap → Prop) (v62 : Value) (v63 : Value) (h : Heap) (κ : Value → Heap → Prop) : Prop :=
 RdK (some a0) h fun v64 h =>
 RdK (some (slot l56 92)) h fun v65 h =>
 RdK (indexAddrS none 4 v64 v65 h fun v _ => some v) h fun v66 h =>
 RdK (fieldAddrB none 1 v66 h fun v _ => some v) h fun v67 h =>
 RdK (loadA none 2 v67 h fun v _ => some v) h fun v68 h =>
 RdK (some a0) h fun v69 h =>
 RdK (some (slot l61 83)) h fun v70 h =>
 RdK (indexAddrS none 4 v69 v70 h fun v _ => some v) h fun v71 h =>
 RdK (fieldAddrB none 1 v71 h fun v _ => some v) h fun v72 h =>
 RdK (loadA none 2 v72 h fun v _ => some v) h fun v73 h =>
 RdK (binB none Try.prog .eql 27 false false v68 v73 h fun v _ => some v) h fun v74 h =>
 RdK (some v74) h fun v75 h =>
 GuardW (wantV v75 true) (fun K76 =>
 RdK (some a0) h K76) h fun v77 h =>
 GuardW (wantV v75 true) (fun K78 =>
 RdK (some (slot l56 92)) h K78) h fun v79 h =>
 GuardW (wantV v75 true) (fun K80 =>
 RdK (indexAddrS none 4 v77 v79 h fun v _ => some v) h K80) h fun v81 h =>
 GuardW (wantV v75 true) (fun K82 =>
 RdK (fieldAddrB none 0 v81 h fun v _ => some v) h K82) h fun v83 h =>
 GuardW (wantV v75 true) (fun K84 =>
 RdK (load1 none v83 h fun v _ => some v) h K84) h fun v85 h =>
 GuardW (wantV v75 true) (fun K86 =>
 RdK (some a0) h K86) h fun v87 h =>
 GuardW (wantV v75 true) (fun K88 =>
 RdK (some (slot l61 83)) h K88) h fun v89 h =>
 GuardW (wantV v75 true) (fun K90 =>
 RdK (indexAddrS none 4 v87 v89 h fun v _ => some v) h K90) h fun v91 h =>
 GuardW (wantV v75 true) (fun K92 =>
 RdK (fieldAddrB none 0 v91 h fun v _ => some v) h K92) h fun v93 h =>
 GuardW (wantV v75 true) (fun K94 =>
 RdK (load1 none v93 h fun v _ => some v) h K94) h fun v95 h =>
 GuardW (wantV v75 true) (fun K96 =>
 RdK (binB none Try.prog .neq 3 false false v85 v95 h fun v _ => some v) h K96) h fun v97 h =>
 RdK (pickB none v75 v97 (Value.bool false) h fun v _ => some v) h fun v98 h =>
 RdK (some v98) h fun v99 h =>
 GuardW (wantV v99 true) (fun K100 =>
 RdK (some a0) h K100) h fun v101 h =>
 GuardW (wantV v99 true) (fun K102 =>
 RdK (some (slot l56 92)) h K102) h fun v103 h =>
 GuardW (wantV v99 true) (fun K104 =>
 RdK (indexAddrS none 4 v101 v103 h fun v _ => some v) h K104) h fun v105 h =>
 GuardW (wantV v99 true) (fun K106 =>
 RdK (fieldAddrB none 3 v105 h fun v _ => some v) h K106) h fun v107 h =>
 GuardW (wantV v99 true) (fun K108 =>
 RdK (load1 none v107 h fun v _ => some v) h K108) h fun v109 h =>
 GuardW (wantV v99 true) (fun K110 =>
 RdK (some a0) h K110) h fun v111 h =>
 GuardW (wantV v99 true) (fun K112 =>
 RdK (some (slot l61 83)) h K112) h fun v113 h =>
 GuardW (wantV v99 true) (fun K114 =>
 RdK (indexAddrS none 4 v111 v113 h fun v _ => some v) h K114) h fun v115 h =>
 GuardW (wantV v99 true) (fun K116 =>
 RdK (fieldAddrB none 3 v115 h fun v _ => some v) h K116) h fun v117 h =>
 GuardW (wantV v99 true) (fun K118 =>
 RdK (load1 none v117 h fun v _ => some v) h K118) h fun v119 h =>
 GuardW (wantV v99 true) (fun K120 =>
 CallW Try.prog 16 [v109, v119] h K120) h fun v121 h =>
 GuardW (wantV v99 true) (fun K122 =>
 RdK (unB none .not v121 h fun v _ => some v) h K122) h fun v123 h =>
 RdK (pickB none v99 v123 (Value.bool false) h fun v _ => some v) h fun v124 h =>
 GuardW (wantV v124 true) (fun K125 =>
 K125 v7 h) h fun v126 h =>
 GuardW (wantV v124 true) (fun K127 =>
 unB False .not v126 h K127) h fun v128 h =>
 GuardW (wantV v124 true) (fun K129 =>
 K129 v128 h) h fun v130 h =>
 GuardW (wantV v130 false) (fun K131 =>
 K131 (slot l56 92) h) h fun v132 h =>
 GuardW (wantV v130 false) (fun K133 =>
 K133 v5 h) h fun v134 h =>
 GuardW (wantV v130 false) (fun K135 =>
 binB False Try.prog .lss 3 false false v132 v134 h K135) h fun v136 h =>
 GuardW (wantV v124 true) (fun K137 =>
 pickB False v130 (Value.bool true) v136 h K137) h fun v138 h =>
 GuardW (wantV v124 true) (fun K139 =>
 K139 v138 h) h fun v140 h =>
 GuardW (wantV v140 false) (fun K141 =>
 K141 (slot l56 92) h) h fun v142 h =>
 GuardW (wantV v140 false) (fun K143 =>
 K143 v5 h) h fun v144 h =>
 GuardW (wantV v140 false) (fun K145 =>
 binB False Try.prog .eql 3 false false v142 v144 h K145) h fun v146 h =>
 GuardW (wantV v140 false) (fun K147 =>
 K147 v146 h) h fun v148 h =>
 GuardW (wantV v148 true) (fun K149 =>
 K149 (slot l61 83) h) h fun v150 h =>
 GuardW (wantV v148 true) (fun K151 =>
 K151 v6 h) h fun v152 h =>
 GuardW (wantV v148 true) (fun K153 =>
 binB False Try.prog .lss 3 false false v150 v152 h K153) h fun v154 h =>
 GuardW (wantV v140 false) (fun K155 =>
 pickB False v148 v154 (Value.bool false) h K155) h fun v156 h =>
 GuardW (wantV v124 true) (fun K157 =>
 pickB False v140 (Value.bool true) v156 h K157) h fun v158 h =>
 pickB False v124 v158 (Value.bool false) h fun v159 h =>
 GuardW (wantV v159 false) (fun K160 =>
 K160 (slot l56 92) h) h fun v161 h =>
 GuardW (wantV v159 false) (fun K162 =>
 K162 v5 h) h fun v163 h =>
 GuardW (wantV v159 false) (fun K164 =>
 binB False Try.prog .eql 3 false false v161 v163 h K164) h fun v165 h =>
 GuardW (wantV v159 false) (fun K166 =>
 K166 v165 h) h fun v167 h =>
 GuardW (wantV v167 true) (fun K168 =>
 K168 (slot l61 83) h) h fun v169 h =>
 GuardW (wantV v167 true) (fun K170 =>
 K170 v6 h) h fun v171 h =>
 GuardW (wantV v167 true) (fun K172 =>
 binB False Try.prog .eql 3 false false v169 v171 h K172) h fun v173 h =>
 GuardW (wantV v159 false) (fun K174 =>
 pickB False v167 v173 (Value.bool false) h K174) h fun v175 h =>
 GuardW (wantV v159 false) (fun K176 =>
 K176 v175 h) h fun v177 h =>
 GuardW (wantV v177 true) (fun K178 =>
 K178 v7 h) h fun v179 h =>
 GuardW (wantV v159 false) (fun K180 =>
 pickB False v177 v179 (Value.bool false) h K180) h fun v181 h =>
 GuardW (wantV v159 false) (fun K182 =>
 K182 v181 h) h fun v183 h =>
 GuardW (wantV v183 true) (fun K184 =>
 K184 v124 h) h fun v185 h =>
 GuardW (wantV v183 true) (fun K186 =>
 unB False .not v185 h K186) h fun v187 h =>
 GuardW (wantV v159 false) (fun K188 =>
 pickB False v183 v187 (Value.bool false) h K188) h fun v189 h =>
 pickB False v159 (Value.bool true) v189 h fun v190 h =>
 CondW v190 (
 κ (Value.bool false) h) (
 binB False Try.prog .add 3 true false (slot l61 83) (Value.int .i64 (1)) h fun v191 h =>
 N60 [(slot l61 83), a0, v62, v63, v64, v65, v66, v67, v68, v69, v70, v71, v72, v73, v74, v75, v77, v79, v81, v83, v85, v87, v89, v91, v93, v95, v97, v98, v99, v101, v103, v105, v107, v109, v111, v113, v115, v117, v119, v121, v123, v124, v124, v124, v124, v126, v128, v130, v132, v134, v136, v138, v140, v142, v144, v146, v148, v150, v152, v154, v156, v158, v159, v159, v161, v163, v165, v167, v169, v171, v173, v175, v177, v179, v181, v183, v185, v187, v189, v190, (slot l61 80), (slot l61 83), v191, v191] h)

noncomputable def rs_3_1 (l196 : List Value) (a0 : Value) (N195 : List Value → Heap → Prop) (v7 : Value) (h : Heap) (κ : Value → Heap → Prop) : Prop :=
 binB False Try.prog .geq 3 true false (slot l196 12) (Value.int .i64 (0)) h fun v197 h =>
 CondW v197 (
 indexAddrS False 4 a0 (slot l196 12) h fun v198 h =>
 loadA False 4 v198 h fun v199 h =>
 fillB False [(0, 4)] [v199] (repeatL [(Value.int .i64 (0)), (Value.int .i64 (0)), (Value.int .i64 (0)), (Value.int .i64 (0))] 1) fun cs202 => cellsK False cs202 30 false fun o200 => newBlock False o200 h fun b201 h =>
 appendB False 30 4 [(Value.int .i64 (0)), (Value.int .i64 (0)), (Value.int .i64 (0)), (Value.int .i64 (0))] false (slot l196 9) (sliceTo 1 1 b201) h fun v203 h =>
 binB False Try.prog .sub 3 true false (slot l196 12) (Value.int .i64 (1)) h fun v204 h =>
 N195 [(slot l196 12), v197, (slot l196 9), a0, (slot l196 12), v198, v199, (sliceTo 1 1 b201), v203, v203, (slot l196 12), v204, v204] h) (
 CallW Try.prog 15 [(slot l196 9)] h fun v205 h =>
 extractB False 0 v205 h fun v206 h =>
 extractB False 1 v205 h fun v207 h =>
 extractB False 2 v205 h fun v208 h =>
 binB False Try.prog .eql 4 false false v208 v7 h fun v209 h =>
 κ v209 h)

noncomputable def rs_3_2 (l56 : List Value) (a0 : Value) (v7 : Value) (v5 : Value) (v6 : Value) (N55 : List Value → Heap → Prop) (v57 : Value) (v58 : Value) (h : Heap) (κ : Value → Heap → Prop) : Prop :=
 binB False Try.prog .add 3 true false (slot l56 92) (Value.int .i64 (1)) h fun v59 h =>
 LoopR [(slot l56 6), (slot l56 7), (slot l56 8), (slot l56 9), (slot l56 10), (slot l56 11), (slot l56 12), (slot l56 13), (slot l56 14), (slot l56 15), (slot l56 16), (slot l56 17), (slot l56 18), (slot l56 19), (slot l56 20), (slot l56 21), (slot l56 22), (slot l56 23), (slot l56 24), (slot l56 25), (slot l56 26), (slot l56 27), (slot l56 28), (slot l56 29), (slot l56 30), (slot l56 31), (slot l56 32), (slot l56 33), (slot l56 34), (slot l56 35), (slot l56 36), (slot l56 37), (slot l56 38), (slot l56 39), (slot l56 40), (slot l56 41), (slot l56 42), (slot l56 43), (slot l56 44), (slot l56 45), (slot l56 46), (slot l56 47), (slot l56 48), (slot l56 49), (slot l56 50), (slot l56 51), (slot l56 52), (slot l56 53), (slot l56 54), (slot l56 55), (slot l56 56), (slot l56 57), (slot l56 58), (slot l56 59), (slot l56 60), (slot l56 61), (slot l56 62), (slot l56 63), (slot l56 64), (slot l56 65), (slot l56 66), (slot l56 67), (slot l56 68), (slot l56 69), (slot l56 70), (slot l56 71), (slot l56 72), (slot l56 73), (slot l56 74), (slot l56 75), (slot l56 76), (slot l56 77), (slot l56 78), (slot l56 79), (slot l56 80), (slot l56 81), (slot l56 82), (slot l56 83), (slot l56 84), (slot l56 85), (slot l56 86), (slot l56 87), (slot l56 88), v59] h fun l61 h N60 =>
 lenSli False a0 h fun v62 h =>
 binB False Try.prog .lss 3 false false (slot l61 83) v62 h fun v63 h =>
 CondW v63 (
 rs_3_0 a0 l56 l61 v7 v5 v6 N60 v62 v63 h κ) (
 binB False Try.prog .add 3 true false (slot l56 92) (Value.int .i64 (1)) h fun v192 h =>
 N55 [(slot l56 92), a0, v57, v58, (slot l56 92), v59, (slot l61 83), a0, v62, v63, (slot l61 4), (slot l61 5), (slot l61 6), (slot l61 7), (slot l61 8), (slot l61 9), (slot l61 10), (slot l61 11), (slot l61 12), (slot l61 13), (slot l61 14), (slot l61 15), (slot l61 16), (slot l61 17), (slot l61 18), (slot l61 19), (slot l61 20), (slot l61 21), (slot l61 22), (slot l61 23), (slot l61 24), (slot l61 25), (slot l61 26), (slot l61 27), (slot l61 28), (slot l61 29), (slot l61 30), (slot l61 31), (slot l61 32), (slot l61 33), (slot l61 34), (slot l61 35), (slot l61 36), (slot l61 37), (slot l61 38), (slot l61 39), (slot l61 40), (slot l61 41), (slot l61 42), (slot l61 43), (slot l61 44), (slot l61 45), (slot l61 46), (slot l61 47), (slot l61 48), (slot l61 49), (slot l61 50), (slot l61 51), (slot l61 52), (slot l61 53), (slot l61 54), (slot l61 55), (slot l61 56), (slot l61 57), (slot l61 58), (slot l61 59), (slot l61 60), (slot l61 61), (slot l61 62), (slot l61 63), (slot l61 64), (slot l61 65), (slot l61 66), (slot l61 67), (slot l61 68), (slot l61 69), (slot l61 70), (slot l61 71), (slot l61 72), (slot l61 73), (slot l61 74), (slot l61 75), (slot l61 76), (slot l61 77), (slot l61 78), (slot l61 79), (slot l61 80), (slot l61 81), (slot l61 82), (slot l61 83), (slot l56 92), v192, v192] h)

noncomputable def rs_3_3 (a0 : Value) (l56 : List Value) (v7 : Value) (v5 : Value) (v6 : Value) (N55 : List Value → Heap → Prop) (h : Heap) (κ : Value → Heap → Prop) : Prop :=
 lenSli False a0 h fun v57 h =>
 binB False Try.prog .lss 3 false false (slot l56 92) v57 h fun v58 h =>
 CondW v58 (
 rs_3_2 l56 a0 v7 v5 v6 N55 v57 v58 h κ) (
 lenSli False a0 h fun v193 h =>
 binB False Try.prog .sub 3 true false v193 (Value.int .i64 (1)) h fun v194 h =>
 LoopR [undef, undef, undef, undef, undef, undef, undef, undef, undef, (Value.slice none 0 0), undef, undef, v194] h fun l196 h N195 =>
 rs_3_1 l196 a0 N195 v7 h κ)

noncomputable def rs_3_4 (a0 : Value) (h : Heap) (κ : Value → Heap → Prop) : Prop :=
 CallW Try.prog 15 [a0] h fun v4 h =>
 extractB False 0 v4 h fun v5 h =>
 extractB False 1 v4 h fun v6 h =>
 extractB False 2 v4 h fun v7 h =>
 unB False .not v7 h fun v8 h =>
 GuardW (wantV v8 true) (fun K9 =>
 K9 v5 h) h fun v10 h =>
 GuardW (wantV v8 true) (fun K11 =>
 binB False Try.prog .neq 3 true false v10 (Value.int .i64 (0)) h K11) h fun v12 h =>
 GuardW (wantV v8 true) (fun K13 =>
 K13 v12 h) h fun v14 h =>
 GuardW (wantV v14 false) (fun K15 =>
 K15 v6 h) h fun v16 h =>
 GuardW (wantV v14 false) (fun K17 =>
 binB False Try.prog .neq 3 true false v16 (Value.int .i64 (0)) h K17) h fun v18 h =>
 GuardW (wantV v8 true) (fun K19 =>
 pickB False v14 (Value.bool true) v18 h K19) h fun v20 h =>
 pickB False v8 v20 (Value.bool false) h fun v21 h =>
 GuardW (wantV v21 false) (fun K22 =>
 K22 v7 h) h fun v23 h =>
 GuardW (wantV v21 false) (fun K24 =>
 K24 v23 h) h fun v25 h =>
 GuardW (wantV v25 true) (fun K26 =>
 K26 v5 h) h fun v27 h =>
 GuardW (wantV v25 true) (fun K28 =>
 binB False Try.prog .lss 3 true false v27 (Value.int .i64 (0)) h K28) h fun v29 h =>
 GuardW (wantV v25 true) (fun K30 =>
 K30 v29 h) h fun v31 h =>
 GuardW (wantV v31 false) (fun K32 =>
 K32 v5 h) h fun v33 h =>
 GuardW (wantV v31 false) (fun K34 =>
 K34 v6 h) h fun v35 h =>
 GuardW (wantV v31 false) (fun K36 =>
 binB False Try.prog .geq 3 false false v33 v35 h K36) h fun v37 h =>
 GuardW (wantV v25 true) (fun K38 =>
 pickB False v31 (Value.bool true) v37 h K38) h fun v39 h =>
 GuardW (wantV v25 true) (fun K40 =>
 K40 v39 h) h fun v41 h =>
 GuardW (wantV v41 false) (fun K42 =>
 K42 v6 h) h fun v43 h =>
 GuardW (wantV v41 false) (fun K44 =>
 K44 a0 h) h fun v45 h =>
 GuardW (wantV v41 false) (fun K46 =>
 lenSli False v45 h K46) h fun v47 h =>
 GuardW (wantV v41 false) (fun K48 =>
 binB False Try.prog .geq 3 false false v43 v47 h K48) h fun v49 h =>
 GuardW (wantV v25 true) (fun K50 =>
 pickB False v41 (Value.bool true) v49 h K50) h fun v51 h =>
 GuardW (wantV v21 false) (fun K52 =>
 pickB False v25 v51 (Value.bool false) h K52) h fun v53 h =>
 pickB False v21 (Value.bool true) v53 h fun v54 h =>
 CondW v54 (
 κ (Value.bool false) h) (
 LoopR [undef, undef, undef, undef, undef, undef, undef, undef, undef, undef, undef, undef, undef, undef, undef, undef, undef, undef, undef, undef, undef, undef, undef, undef, undef, undef, undef, undef, undef, undef, undef, undef, undef, undef, undef, undef, undef, undef, undef, undef, undef, undef, undef, undef, undef, undef, undef, undef, undef, undef, undef, undef, undef, undef, undef, undef, undef, undef, undef, undef, undef, undef, undef, undef, undef, undef, undef, undef, undef, undef, undef, undef, undef, undef, undef, undef, undef, undef, undef, undef, undef, undef, undef, undef, undef, undef, (Value.bool false), undef, undef, undef, undef, undef, (Value.int .i64 (0))] h fun l56 h N55 =>
 rs_3_3 a0 l56 v7 v5 v6 N55 h κ)

/-- latchstring/latchstringlaw22.SafetyClashes -/
theorem rs_3 (a0 : Value) (h : Heap) (κ : Value → Heap → Prop) : BodyW Try.prog 3 [a0] h κ = (
 CallW Try.prog 14 [] h fun v0 h =>
 unB False .not v0 h fun v1 h =>
 CondW v1 (
 κ (Value.bool false) h) (
 lenSli False a0 h fun v2 h =>
 binB False Try.prog .gtr 3 true false v2 (Value.int .i64 (40)) h fun v3 h =>
 CondW v3 (
 κ (Value.bool true) h) (
 rs_3_4 a0 h κ))) := by kernel_rfl

noncomputable def rs_15_0 (a0 : Value) (l11 : List Value) (b7 : Nat) (l2 : List Value) (N10 : List Value → Heap → Prop) (v12 : Value) (v13 : Value) (h : Heap) (κ : Value → Heap → Prop) : Prop :=
 indexAddrS False 4 a0 (slot l11 36) h fun v14 h =>
 loadA False 4 v14 h fun v15 h =>
 cellsK False [(Value.int .i64 (0)), (Value.int .i64 (0)), (Value.int .i64 (0)), (Value.int .i64 (0))] 30 false fun o16 => newBlock False o16 h fun b17 h =>
 storeV False 4 (ptrTo b17) v15 h fun v18 h =>
 fieldAddrB False 1 (ptrTo b7) h fun v19 h =>
 loadA False 2 v19 h fun v20 h =>
 fieldAddrB False 1 (ptrTo b17) h fun v21 h =>
 loadA False 2 v21 h fun v22 h =>
 binB False Try.prog .eql 27 false false v20 v22 h fun v23 h =>
 GuardW (wantV v23 true) (fun K24 =>
 fieldAddrB False 0 (ptrTo b7) h K24) h fun v25 h =>
 GuardW (wantV v23 true) (fun K26 =>
 load1 False v25 h K26) h fun v27 h =>
 GuardW (wantV v23 true) (fun K28 =>
 fieldAddrB False 0 (ptrTo b17) h K28) h fun v29 h =>
 GuardW (wantV v23 true) (fun K30 =>
 load1 False v29 h K30) h fun v31 h =>
 GuardW (wantV v23 true) (fun K32 =>
 binB False Try.prog .neq 3 false false v27 v31 h K32) h fun v33 h =>
 pickB False v23 v33 (Value.bool false) h fun v34 h =>
 GuardW (wantV v34 true) (fun K35 =>
 fieldAddrB False 3 (ptrTo b7) h K35) h fun v36 h =>
 GuardW (wantV v34 true) (fun K37 =>
 load1 False v36 h K37) h fun v38 h =>
 GuardW (wantV v34 true) (fun K39 =>
 fieldAddrB False 3 (ptrTo b17) h K39) h fun v40 h =>
 GuardW (wantV v34 true) (fun K41 =>
 load1 False v40 h K41) h fun v42 h =>
 GuardW (wantV v34 true) (fun K43 =>
 CallW Try.prog 65 [v38, v42] h K43) h fun v44 h =>
 GuardW (wantV v34 true) (fun K45 =>
 unB False .not v44 h K45) h fun v46 h =>
 pickB False v34 v46 (Value.bool false) h fun v47 h =>
 CondW v47 (
 κ (Value.tuple (Array.mk [(slot l2 46), (slot l11 36), (Value.bool true)])) h) (
 binB False Try.prog .add 3 true false (slot l11 36) (Value.int .i64 (1)) h fun v48 h =>
 N10 [(slot l11 36), a0, v12, v13, a0, (slot l11 36), v14, v15, (ptrTo b17), v19, v20, v21, v22, v23, v23, v25, v27, v29, v31, v33, v34, v34, v36, v38, v40, v42, v44, v46, v47, (slot l11 29), (slot l11 30), (slot l11 31), (slot l11 32), (slot l11 33), (slot l11 36), v48, v48] h)

noncomputable def rs_15_1 (a0 : Value) (l2 : List Value) (N1 : List Value → Heap → Prop) (v3 : Value) (h : Heap) (κ : Value → Heap → Prop) : Prop :=
 indexAddrS False 4 a0 (slot l2 46) h fun v4 h =>
 loadA False 4 v4 h fun v5 h =>
 cellsK False [(Value.int .i64 (0)), (Value.int .i64 (0)), (Value.int .i64 (0)), (Value.int .i64 (0))] 30 false fun o6 => newBlock False o6 h fun b7 h =>
 storeV False 4 (ptrTo b7) v5 h fun v8 h =>
 binB False Try.prog .add 3 true false (slot l2 46) (Value.int .i64 (1)) h fun v9 h =>
 LoopR [(slot l2 8), (slot l2 9), (slot l2 10), (slot l2 11), (slot l2 12), (slot l2 13), (slot l2 14), (slot l2 15), (slot l2 16), (slot l2 17), (slot l2 18), (slot l2 19), (slot l2 20), (slot l2 21), (slot l2 22), (slot l2 23), (slot l2 24), (slot l2 25), (slot l2 26), (slot l2 27), (slot l2 28), (slot l2 29), (slot l2 30), (slot l2 31), (slot l2 32), (slot l2 33), (slot l2 34), (slot l2 35), (slot l2 36), (slot l2 37), (slot l2 38), (slot l2 39), (slot l2 40), (slot l2 41), (slot l2 42), (slot l2 43), v9] h fun l11 h N10 =>
 lenSli False a0 h fun v12 h =>
 binB False Try.prog .lss 3 false false (slot l11 36) v12 h fun v13 h =>
 CondW v13 (
 rs_15_0 a0 l11 b7 l2 N10 v12 v13 h κ) (
 binB False Try.prog .add 3 true false (slot l2 46) (Value.int .i64 (1)) h fun v49 h =>
 N1 [v3, (slot l2 46), v4, v5, (ptrTo b7), (slot l2 46), (slot l2 46), v9, (slot l11 36), a0, v12, v13, (slot l11 4), (slot l11 5), (slot l11 6), (slot l11 7), (slot l11 8), (slot l11 9), (slot l11 10), (slot l11 11), (slot l11 12), (slot l11 13), (slot l11 14), (slot l11 15), (slot l11 16), (slot l11 17), (slot l11 18), (slot l11 19), (slot l11 20), (slot l11 21), (slot l11 22), (slot l11 23), (slot l11 24), (slot l11 25), (slot l11 26), (slot l11 27), (slot l11 28), (slot l11 29), (slot l11 30), (slot l11 31), (slot l11 32), (slot l11 33), (slot l11 34), (slot l11 35), (slot l11 36), v49, v49] h)

/-- latchstring/safety.Clash -/
theorem rs_15 (a0 : Value) (h : Heap) (κ : Value → Heap → Prop) : BodyW Try.prog 15 [a0] h κ = (
 lenSli False a0 h fun v0 h =>
 LoopR [undef, undef, undef, undef, undef, undef, undef, undef, undef, undef, undef, undef, undef, undef, undef, undef, undef, undef, undef, undef, undef, undef, undef, undef, undef, undef, undef, undef, undef, undef, undef, undef, undef, undef, undef, undef, undef, undef, undef, (Value.int .i64 (0)), (Value.int .i64 (0)), (Value.bool false), undef, undef, undef, undef, (Value.int .i64 (0))] h fun l2 h N1 =>
 binB False Try.prog .lss 3 false false (slot l2 46) v0 h fun v3 h =>
 CondW v3 (
 rs_15_1 a0 l2 N1 v3 h κ) (
 κ (Value.tuple (Array.mk [(Value.int .i64 (0)), (Value.int .i64 (0)), (Value.bool false)])) h)) := by kernel_rfl

end Go.Proofs
