/-
  PROVED HERE: a part of the proof, by a calculus of weakest conditions over an abstract heap (RS10).
-/
import Derived.Test.YtlmkplcfmngigaaV3
import Derived.Test.YtlmkplcfmngigaaProg
import Derived.KernelRfl
set_option linter.unusedVariables false
set_option linter.unusedSimpArgs false
set_option maxRecDepth 100000
namespace Go.Proofs
open Go.Vai

noncomputable def rs_3_0 (a0 : Value) (l56 : List Value) (l61 : List Value) (v7 : Value) (v5 : Value) (v6 : Value) (N60 : List Value → Heap → Prop) (v62 : Value) (v63 : Value) (h : Heap) (κ : Value → Heap → Prop) : Prop :=
 RdK (some a0) h fun v64 h =>
 RdK (some (slot l56 92)) h fun v65 h =>
 RdK (indexAddrS none 4 v64 v65 h fun v _ => some v) h fun v66 h =>
 RdK (fieldAddrB none 1 v66 h fun v _ => some v) h fun v67 h =>
 RdK (loadA none 2 v67 h fun v _ => some v) h fun v68 h =>
 RdK (some a0) h fun v69 h =>
 RdK (some (slot l61 83)) h fun v70 h =>
 RdK (indexAddrS none 4 v69 v70 h fun v _ => some v) h fun v71 h =>
 RdK (fieldAddrB none 1 v71 h fun v _ => some v) h fun v72 h =>
 RdK (loadA none 2 v72 h fun v _ => some v) h fun v73 h =>
 RdK (binB none Try.prog .eql 27 false false v68 v73 h fun v _ => some v) h fun v74 h =>
 RdK (some v74) h fun v75 h =>
 GuardW (wantV v75 true) (fun K76 =>
 RdK (some a0) h K76) h fun v77 h =>
 GuardW (wantV v75 true) (fun K78 =>
 RdK (some (slot l56 92)) h K78) h fun v79 h =>
 GuardW (wantV v75 true) (fun K80 =>
 RdK (indexAddrS none 4 v77 v79 h fun v _ => some v) h K80) h fun v81 h =>
 GuardW (wantV v75 true) (fun K82 =>
 RdK (fieldAddrB none 0 v81 h fun v _ => some v) h K82) h fun v83 h =>
 GuardW (wantV v75 true) (fun K84 =>
 RdK (load1 none v83 h fun v _ => some v) h K84) h fun v85 h =>
 GuardW (wantV v75 true) (fun K86 =>
 RdK (some a0) h K86) h fun v87 h =>
 GuardW (wantV v75 true) (fun K88 =>
 RdK (some (slot l61 83)) h K88) h fun v89 h =>
 GuardW (wantV v75 true) (fun K90 =>
 RdK (indexAddrS none 4 v87 v89 h fun v _ => some v) h K90) h fun v91 h =>
 GuardW (wantV v75 true) (fun K92 =>
 RdK (fieldAddrB none 0 v91 h fun v _ => some v) h K92) h fun v93 h =>
 GuardW (wantV v75 true) (fun K94 =>
 RdK (load1 none v93 h fun v _ => some v) h K94) h fun v95 h =>
 GuardW (wantV v75 true) (fun K96 =>
 RdK (binB none Try.prog .neq 3 false false v85 v95 h fun v _ => some v) h K96) h fun v97 h =>
 RdK (pickB none v75 v97 (Value.bool false) h fun v _ => some v) h fun v98 h =>
 RdK (some v98) h fun v99 h =>
 GuardW (wantV v99 true) (fun K100 =>
 RdK (some a0) h K100) h fun v101 h =>
 GuardW (wantV v99 true) (fun K102 =>
 RdK (some (slot l56 92)) h K102) h fun v103 h =>
 GuardW (wantV v99 true) (fun K104 =>
 RdK (indexAddrS none 4 v101 v103 h fun v _ => some v) h K104) h fun v105 h =>
 GuardW (wantV v99 true) (fun K106 =>
 RdK (fieldAddrB none 3 v105 h fun v _ => some v) h K106) h fun v107 h =>
 GuardW (wantV v99 true) (fun K108 =>
 RdK (load1 none v107 h fun v _ => some v) h K108) h fun v109 h =>
 GuardW (wantV v99 true) (fun K110 =>
 RdK (some a0) h K110) h fun v111 h =>
 GuardW (wantV v99 true) (fun K112 =>
 RdK (some (slot l61 83)) h K112) h fun v113 h =>
 GuardW (wantV v99 true) (fun K114 =>
 RdK (indexAddrS none 4 v111 v113 h fun v _ => some v) h K114) h fun v115 h =>
 GuardW (wantV v99 true) (fun K116 =>
 RdK (fieldAddrB none 3 v115 h fun v _ => some v) h K116) h fun v117 h =>
 GuardW (wantV v99 true) (fun K118 =>
 RdK (load1 none v117 h fun v _ => some v) h K118) h fun v119 h =>
 GuardW (wantV v99 true) (fun K120 =>
 CallW Try.prog 16 [v109, v119] h K120) h fun v121 h =>
 GuardW (wantV v99 true) (fun K122 =>
 RdK (unB none .not v121 h fun v _ => some v) h K122) h fun v123 h =>
 RdK (pickB none v99 v123 (Value.bool false) h fun v _ => some v) h fun v124 h =>
 GuardW (wantV v124 true) (fun K125 =>
 K125 v7 h) h fun v126 h =>
 GuardW (wantV v124 true) (fun K127 =>
 unB False .not v126 h K127) h fun v128 h =>
 GuardW (wantV v124 true) (fun K129 =>
 K129 v128 h) h fun v130 h =>
 GuardW (wantV v130 false) (fun K131 =>
 K131 (slot l56 92) h) h fun v132 h =>
 GuardW (wantV v130 false) (fun K133 =>
 K133 v5 h) h fun v134 h =>
 GuardW (wantV v130 false) (fun K135 =>
 binB False Try.prog .lss 3 false false v132 v134 h K135) h fun v136 h =>
 GuardW (wantV v124 true) (fun K137 =>
 pickB False v130 (Value.bool true) v136 h K137) h fun v138 h =>
 GuardW (wantV v124 true) (fun K139 =>
 K139 v138 h) h fun v140 h =>
 GuardW (wantV v140 false) (fun K141 =>
 K141 (slot l56 92) h) h fun v142 h =>
 GuardW (wantV v140 false) (fun K143 =>
 K143 v5 h) h fun v144 h =>
 GuardW (wantV v140 false) (fun K145 =>
 binB False Try.prog .eql 3 false false v142 v144 h K145) h fun v146 h =>
 GuardW (wantV v140 false) (fun K147 =>
 K147 v146 h) h fun v148 h =>
 GuardW (wantV v148 true) (fun K149 =>
 K149 (slot l61 83) h) h fun v150 h =>
 GuardW (wantV v148 true) (fun K151 =>
 K151 v6 h) h fun v152 h =>
 GuardW (wantV v148 true) (fun K153 =>
 binB False Try.prog .lss 3 false false v150 v152 h K153) h fun v154 h =>
 GuardW (wantV v140 false) (fun K155 =>
 pickB False v148 v154 (Value.bool false) h K155) h fun v156 h =>
 GuardW (wantV v124 true) (fun K157 =>
 pickB False v140 (Value.bool true) v156 h K157) h fun v158 h =>
 pickB False v124 v158 (Value.bool false) h fun v159 h =>
 GuardW (wantV v159 false) (fun K160 =>
 K160 (slot l56 92) h) h fun v161 h =>
 GuardW (wantV v159 false) (fun K162 =>
 K162 v5 h) h fun v163 h =>
 GuardW (wantV v159 false) (fun K164 =>
 binB False Try.prog .eql 3 false false v161 v163 h K164) h fun v165 h =>
 GuardW (wantV v159 false) (fun K166 =>
 K166 v165 h) h fun v167 h =>
 GuardW (wantV v167 true) (fun K168 =>
 K168 (slot l61 83) h) h fun v169 h =>
 GuardW (wantV v167 true) (fun K170 =>
 K170 v6 h) h fun v171 h =>
 GuardW (wantV v167 true) (fun K172 =>
 binB False Try.prog .eql 3 false false v169 v171 h K172) h fun v173 h =>
 GuardW (wantV v159 false) (fun K174 =>
 pickB False v167 v173 (Value.bool false) h K174) h fun v175 h =>
 GuardW (wantV v159 false) (fun K176 =>
 K176 v175 h) h fun v177 h =>
 GuardW (wantV v177 true) (fun K178 =>
 K178 v7 h) h fun v179 h =>
 GuardW (wantV v159 false) (fun K180 =>
 pickB False v177 v179 (Value.bool false) h K180) h fun v181 h =>
 GuardW (wantV v159 false) (fun K182 =>
 K182 v181 h) h fun v183 h =>
 GuardW (wantV v183 true) (fun K184 =>
 K184 v124 h) h fun v185 h =>
 GuardW (wantV v183 true) (fun K186 =>
 unB False .not v185 h K186) h fun v187 h =>
 GuardW (wantV v159 false) (fun K188 =>
 pickB False v183 v187 (Value.bool false) h K188) h fun v189 h =>
 pickB False v159 (Value.bool true) v189 h fun v190 h =>
 CondW v190 (
 κ (Value.bool false) h) (
 binB False Try.prog .add 3 true false (slot l61 83) (Value.int .i64 (1)) h fun v191 h =>
 N60 [(slot l61 83), a0, v62, v63, v64, v65, v66, v67, v68, v69, v70, v71, v72, v73, v74, v75, v77, v79, v81, v83, v85, v87, v89, v91, v93, v95, v97, v98, v99, v101, v103, v105, v107, v109, v111, v113, v115, v117, v119, v121, v123, v124, v124, v124, v124, v126, v128, v130, v132, v134, v136, v138, v140, v142, v144, v146, v148, v150, v152, v154, v156, v158, v159, v159, v161, v163, v165, v167, v169, v171, v173, v175, v177, v179, v181, v183, v185, v187, v189, v190, (slot l61 80), (slot l61 83), v191, v191] h)

noncomputable def rs_3_1 (l196 : List Value) (a0 : Value) (N195 : List Value → Heap → Prop) (v7 : Value) (h : Heap) (κ : Value → Heap → Prop) : Prop :=
 binB False Try.prog .geq 3 true false (slot l196 12) (Value.int .i64 (0)) h fun v197 h =>
 CondW v197 (
 indexAddrS False 4 a0 (slot l196 12) h fun v198 h =>
 loadA False 4 v198 h fun v199 h =>
 fillB False [(0, 4)] [v199] (repeatL [(Value.int .i64 (0)), (Value.int .i64 (0)), (Value.int .i64 (0)), (Value.int .i64 (0))] 1) fun cs202 => cellsK False cs202 30 false fun o200 => newBlock False o200 h fun b201 h =>
 appendB False 30 4 [(Value.int .i64 (0)), (Value.int .i64 (0)), (Value.int .i64 (0)), (Value.int .i64 (0))] false (slot l196 9) (sliceTo 1 1 b201) h fun v203 h =>
 binB False Try.prog .sub 3 true false (slot l196 12) (Value.int .i64 (1)) h fun v204 h =>
 N195 [(slot l196 12), v197, (slot l196 9), a0, (slot l196 12), v198, v199, (sliceTo 1 1 b201), v203, v203, (slot l196 12), v204, v204] h) (
 CallW Try.prog 15 [(slot l196 9)] h fun v205 h =>
 extractB False 0 v205 h fun v206 h =>
 extractB False 1 v205 h fun v207 h =>
 extractB False 2 v205 h fun v208 h =>
 binB False Try.prog .eql 4 false false v208 v7 h fun v209 h =>
 κ v209 h)

noncomputable def rs_3_2 (l56 : List Value) (a0 : Value) (v7 : Value) (v5 : Value) (v6 : Value) (N55 : List Value → Heap → Prop) (v57 : Value) (v58 : Value) (h : Heap) (κ : Value → Heap → Prop) : Prop :=
 binB False Try.prog .add 3 true false (slot l56 92) (Value.int .i64 (1)) h fun v59 h =>
 LoopR [(slot l56 6), (slot l56 7), (slot l56 8), (slot l56 9), (slot l56 10), (slot l56 11), (slot l56 12), (slot l56 13), (slot l56 14), (slot l56 15), (slot l56 16), (slot l56 17), (slot l56 18), (slot l56 19), (slot l56 20), (slot l56 21), (slot l56 22), (slot l56 23), (slot l56 24), (slot l56 25), (slot l56 26), (slot l56 27), (slot l56 28), (slot l56 29), (slot l56 30), (slot l56 31), (slot l56 32), (slot l56 33), (slot l56 34), (slot l56 35), (slot l56 36), (slot l56 37), (slot l56 38), (slot l56 39), (slot l56 40), (slot l56 41), (slot l56 42), (slot l56 43), (slot l56 44), (slot l56 45), (slot l56 46), (slot l56 47), (slot l56 48), (slot l56 49), (slot l56 50), (slot l56 51), (slot l56 52), (slot l56 53), (slot l56 54), (slot l56 55), (slot l56 56), (slot l56 57), (slot l56 58), (slot l56 59), (slot l56 60), (slot l56 61), (slot l56 62), (slot l56 63), (slot l56 64), (slot l56 65), (slot l56 66), (slot l56 67), (slot l56 68), (slot l56 69), (slot l56 70), (slot l56 71), (slot l56 72), (slot l56 73), (slot l56 74), (slot l56 75), (slot l56 76), (slot l56 77), (slot l56 78), (slot l56 79), (slot l56 80), (slot l56 81), (slot l56 82), (slot l56 83), (slot l56 84), (slot l56 85), (slot l56 86), (slot l56 87), (slot l56 88), v59] h fun l61 h N60 =>
 lenSli False a0 h fun v62 h =>
 binB False Try.prog .lss 3 false false (slot l61 83) v62 h fun v63 h =>
 CondW v63 (
 rs_3_0 a0 l56 l61 v7 v5 v6 N60 v62 v63 h κ) (
 binB False Try.prog .add 3 true false (slot l56 92) (Value.int .i64 (1)) h fun v192 h =>
 N55 [(slot l56 92), a0, v57, v58, (slot l56 92), v59, (slot l61 83), a0, v62, v63, (slot l61 4), (slot l61 5), (slot l61 6), (slot l61 7), (slot l61 8), (slot l61 9), (slot l61 10), (slot l61 11), (slot l61 12), (slot l61 13), (slot l61 14), (slot l61 15), (slot l61 16), (slot l61 17), (slot l61 18), (slot l61 19), (slot l61 20), (slot l61 21), (slot l61 22), (slot l61 23), (slot l61 24), (slot l61 25), (slot l61 26), (slot l61 27), (slot l61 28), (slot l61 29), (slot l61 30), (slot l61 31), (slot l61 32), (slot l61 33), (slot l61 34), (slot l61 35), (slot l61 36), (slot l61 37), (slot l61 38), (slot l61 39), (slot l61 40), (slot l61 41), (slot l61 42), (slot l61 43), (slot l61 44), (slot l61 45), (slot l61 46), (slot l61 47), (slot l61 48), (slot l61 49), (slot l61 50), (slot l61 51), (slot l61 52), (slot l61 53), (slot l61 54), (slot l61 55), (slot l61 56), (slot l61 57), (slot l61 58), (slot l61 59), (slot l61 60), (slot l61 61), (slot l61 62), (slot l61 63), (slot l61 64), (slot l61 65), (slot l61 66), (slot l61 67), (slot l61 68), (slot l61 69), (slot l61 70), (slot l61 71), (slot l61 72), (slot l61 73), (slot l61 74), (slot l61 75), (slot l61 76), (slot l61 77), (slot l61 78), (slot l61 79), (slot l61 80), (slot l61 81), (slot l61 82), (slot l61 83), (slot l56 92), v192, v192] h)

noncomputable def rs_3_3 (a0 : Value) (l56 : List Value) (v7 : Value) (v5 : Value) (v6 : Value) (N55 : List Value → Heap → Prop) (h : Heap) (κ : Value → Heap → Prop) : Prop :=
 lenSli False a0 h fun v57 h =>
 binB False Try.prog .lss 3 false false (slot l56 92) v57 h fun v58 h =>
 CondW v58 (
 rs_3_2 l56 a0 v7 v5 v6 N55 v57 v58 h κ) (
 lenSli False a0 h fun v193 h =>
 binB False Try.prog .sub 3 true false v193 (Value.int .i64 (1)) h fun v194 h =>
 LoopR [undef, undef, undef, undef, undef, undef, undef, undef, undef, (Value.slice none 0 0), undef, undef, v194] h fun l196 h N195 =>
 rs_3_1 l196 a0 N195 v7 h κ)

noncomputable def rs_3_4 (a0 : Value) (h : Heap) (κ : Value → Heap → Prop) : Prop :=
 CallW Try.prog 15 [a0] h fun v4 h =>
 extractB False 0 v4 h fun v5 h =>
 extractB False 1 v4 h fun v6 h =>
 extractB False 2 v4 h fun v7 h =>
 unB False .not v7 h fun v8 h =>
 GuardW (wantV v8 true) (fun K9 =>
 K9 v5 h) h fun v10 h =>
 GuardW (wantV v8 true) (fun K11 =>
 binB False Try.prog .neq 3 true false v10 (Value.int .i64 (0)) h K11) h fun v12 h =>
 GuardW (wantV v8 true) (fun K13 =>
 K13 v12 h) h fun v14 h =>
 GuardW (wantV v14 false) (fun K15 =>
 K15 v6 h) h fun v16 h =>
 GuardW (wantV v14 false) (fun K17 =>
 binB False Try.prog .neq 3 true false v16 (Value.int .i64 (0)) h K17) h fun v18 h =>
 GuardW (wantV v8 true) (fun K19 =>
 pickB False v14 (Value.bool true) v18 h K19) h fun v20 h =>
 pickB False v8 v20 (Value.bool false) h fun v21 h =>
 GuardW (wantV v21 false) (fun K22 =>
 K22 v7 h) h fun v23 h =>
 GuardW (wantV v21 false) (fun K24 =>
 K24 v23 h) h fun v25 h =>
 GuardW (wantV v25 true) (fun K26 =>
 K26 v5 h) h fun v27 h =>
 GuardW (wantV v25 true) (fun K28 =>
 binB False Try.prog .lss 3 true false v27 (Value.int .i64 (0)) h K28) h fun v29 h =>
 GuardW (wantV v25 true) (fun K30 =>
 K30 v29 h) h fun v31 h =>
 GuardW (wantV v31 false) (fun K32 =>
 K32 v5 h) h fun v33 h =>
 GuardW (wantV v31 false) (fun K34 =>
 K34 v6 h) h fun v35 h =>
 GuardW (wantV v31 false) (fun K36 =>
 binB False Try.prog .geq 3 false false v33 v35 h K36) h fun v37 h =>
 GuardW (wantV v25 true) (fun K38 =>
 pickB False v31 (Value.bool true) v37 h K38) h fun v39 h =>
 GuardW (wantV v25 true) (fun K40 =>
 K40 v39 h) h fun v41 h =>
 GuardW (wantV v41 false) (fun K42 =>
 K42 v6 h) h fun v43 h =>
 GuardW (wantV v41 false) (fun K44 =>
 K44 a0 h) h fun v45 h =>
 GuardW (wantV v41 false) (fun K46 =>
 lenSli False v45 h K46) h fun v47 h =>
 GuardW (wantV v41 false) (fun K48 =>
 binB False Try.prog .geq 3 false false v43 v47 h K48) h fun v49 h =>
 GuardW (wantV v25 true) (fun K50 =>
 pickB False v41 (Value.bool true) v49 h K50) h fun v51 h =>
 GuardW (wantV v21 false) (fun K52 =>
 pickB False v25 v51 (Value.bool false) h K52) h fun v53 h =>
 pickB False v21 (Value.bool true) v53 h fun v54 h =>
 CondW v54 (
 κ (Value.bool false) h) (
 LoopR [undef, undef, undef, undef, undef, undef, undef, undef, undef, undef, undef, undef, undef, undef, undef, undef, undef, undef, undef, undef, undef, undef, undef, undef, undef, undef, undef, undef, undef, undef, undef, undef, undef, undef, undef, undef, undef, undef, undef, undef, undef, undef, undef, undef, undef, undef, undef, undef, undef, undef, undef, undef, undef, undef, undef, undef, undef, undef, undef, undef, undef, undef, undef, undef, undef, undef, undef, undef, undef, undef, undef, undef, undef, undef, undef, undef, undef, undef, undef, undef, undef, undef, undef, undef, undef, undef, (Value.bool false), undef, undef, undef, undef, undef, (Value.int .i64 (0))] h fun l56 h N55 =>
 rs_3_3 a0 l56 v7 v5 v6 N55 h κ)

/-- latchstring/latchstringlaw22.SafetyClashes -/
theorem rs_3 (a0 : Value) (h : Heap) (κ : Value → Heap → Prop) : BodyW Try.prog 3 [a0] h κ = (
 CallW Try.prog 14 [] h fun v0 h =>
 unB False .not v0 h fun v1 h =>
 CondW v1 (
 κ (Value.bool false) h) (
 lenSli False a0 h fun v2 h =>
 binB False Try.prog .gtr 3 true false v2 (Value.int .i64 (40)) h fun v3 h =>
 CondW v3 (
 κ (Value.bool true) h) (
 rs_3_4 a0 h κ))) := by kernel_rfl

noncomputable def rs_10_0 (a0 : Value) (l45 : List Value) (b1 : Nat) (v43 : Value) (N48 : List Value → Heap → Prop) (h : Heap) : Prop :=
 RdK (some a0) h fun v50 h =>
 RdK (some (slot l45 35)) h fun v51 h =>
 RdK (indexAddrS none 4 v50 v51 h fun v _ => some v) h fun v52 h =>
 RdK (fieldAddrB none 0 v52 h fun v _ => some v) h fun v53 h =>
 RdK (load1 none v53 h fun v _ => some v) h fun v54 h =>
 RdK (fieldAddrB none 1 (ptrTo b1) h fun v _ => some v) h fun v55 h =>
 RdK (load1 none v55 h fun v _ => some v) h fun v56 h =>
 RdK (binB none Try.prog .neq 3 false false v54 v56 h fun v _ => some v) h fun v57 h =>
 RdK (some v57) h fun v58 h =>
 GuardW (wantV v58 true) (fun K59 =>
 RdK (some a0) h K59) h fun v60 h =>
 GuardW (wantV v58 true) (fun K61 =>
 RdK (some (slot l45 35)) h K61) h fun v62 h =>
 GuardW (wantV v58 true) (fun K63 =>
 RdK (indexAddrS none 4 v60 v62 h fun v _ => some v) h K63) h fun v64 h =>
 GuardW (wantV v58 true) (fun K65 =>
 RdK (fieldAddrB none 1 v64 h fun v _ => some v) h K65) h fun v66 h =>
 GuardW (wantV v58 true) (fun K67 =>
 RdK (loadA none 2 v66 h fun v _ => some v) h K67) h fun v68 h =>
 GuardW (wantV v58 true) (fun K69 =>
 RdK (fieldAddrB none 2 (ptrTo b1) h fun v _ => some v) h K69) h fun v70 h =>
 GuardW (wantV v58 true) (fun K71 =>
 RdK (loadA none 2 v70 h fun v _ => some v) h K71) h fun v72 h =>
 GuardW (wantV v58 true) (fun K73 =>
 RdK (binB none Try.prog .eql 27 false false v68 v72 h fun v _ => some v) h K73) h fun v74 h =>
 RdK (pickB none v58 v74 (Value.bool false) h fun v _ => some v) h fun v75 h =>
 RdK (some v75) h fun v76 h =>
 GuardW (wantV v76 true) (fun K77 =>
 RdK (some a0) h K77) h fun v78 h =>
 GuardW (wantV v76 true) (fun K79 =>
 RdK (some (slot l45 35)) h K79) h fun v80 h =>
 GuardW (wantV v76 true) (fun K81 =>
 RdK (indexAddrS none 4 v78 v80 h fun v _ => some v) h K81) h fun v82 h =>
 GuardW (wantV v76 true) (fun K83 =>
 RdK (fieldAddrB none 3 v82 h fun v _ => some v) h K83) h fun v84 h =>
 GuardW (wantV v76 true) (fun K85 =>
 RdK (load1 none v84 h fun v _ => some v) h K85) h fun v86 h =>
 GuardW (wantV v76 true) (fun K87 =>
 RdK (some v43) h K87) h fun v88 h =>
 GuardW (wantV v76 true) (fun K89 =>
 CallW Try.prog 16 [v86, v88] h K89) h fun v90 h =>
 GuardW (wantV v76 true) (fun K91 =>
 RdK (unB none .not v90 h fun v _ => some v) h K91) h fun v92 h =>
 RdK (pickB none v76 v92 (Value.bool false) h fun v _ => some v) h fun v93 h =>
 CondW v93 (
 N48 [v50, v51, v52, v53, v54, v55, v56, v57, v58, v60, v62, v64, v66, v68, v70, v72, v74, v75, v76, v78, v80, v82, v84, v86, v88, v90, v92, v93, (Value.bool false)] h) (
 N48 [v50, v51, v52, v53, v54, v55, v56, v57, v58, v60, v62, v64, v66, v68, v70, v72, v74, v75, v76, v78, v80, v82, v84, v86, v88, v90, v92, v93, (slot l45 32)] h)

noncomputable def rs_10_1 (a0 : Value) (l125 : List Value) (b1 : Nat) (v97 : Value) (N124 : List Value → Heap → Prop) (v126 : Value) (v127 : Value) (h : Heap) (κ : Value → Heap → Prop) : Prop :=
 RdK (some a0) h fun v128 h =>
 RdK (some (slot l125 45)) h fun v129 h =>
 RdK (indexAddrS none 4 v128 v129 h fun v _ => some v) h fun v130 h =>
 RdK (fieldAddrB none 0 v130 h fun v _ => some v) h fun v131 h =>
 RdK (load1 none v131 h fun v _ => some v) h fun v132 h =>
 RdK (fieldAddrB none 1 (ptrTo b1) h fun v _ => some v) h fun v133 h =>
 RdK (load1 none v133 h fun v _ => some v) h fun v134 h =>
 RdK (binB none Try.prog .neq 3 false false v132 v134 h fun v _ => some v) h fun v135 h =>
 RdK (some v135) h fun v136 h =>
 GuardW (wantV v136 false) (fun K137 =>
 RdK (some a0) h K137) h fun v138 h =>
 GuardW (wantV v136 false) (fun K139 =>
 RdK (some (slot l125 45)) h K139) h fun v140 h =>
 GuardW (wantV v136 false) (fun K141 =>
 RdK (indexAddrS none 4 v138 v140 h fun v _ => some v) h K141) h fun v142 h =>
 GuardW (wantV v136 false) (fun K143 =>
 RdK (fieldAddrB none 1 v142 h fun v _ => some v) h K143) h fun v144 h =>
 GuardW (wantV v136 false) (fun K145 =>
 RdK (loadA none 2 v144 h fun v _ => some v) h K145) h fun v146 h =>
 GuardW (wantV v136 false) (fun K147 =>
 RdK (fieldAddrB none 2 (ptrTo b1) h fun v _ => some v) h K147) h fun v148 h =>
 GuardW (wantV v136 false) (fun K149 =>
 RdK (loadA none 2 v148 h fun v _ => some v) h K149) h fun v150 h =>
 GuardW (wantV v136 false) (fun K151 =>
 RdK (binB none Try.prog .neq 27 false false v146 v150 h fun v _ => some v) h K151) h fun v152 h =>
 RdK (pickB none v136 (Value.bool true) v152 h fun v _ => some v) h fun v153 h =>
 RdK (some v153) h fun v154 h =>
 GuardW (wantV v154 true) (fun K155 =>
 RdK (some v97) h K155) h fun v156 h =>
 GuardW (wantV v154 true) (fun K157 =>
 RdK (some a0) h K157) h fun v158 h =>
 GuardW (wantV v154 true) (fun K159 =>
 RdK (some (slot l125 45)) h K159) h fun v160 h =>
 GuardW (wantV v154 true) (fun K161 =>
 RdK (indexAddrS none 4 v158 v160 h fun v _ => some v) h K161) h fun v162 h =>
 GuardW (wantV v154 true) (fun K163 =>
 RdK (fieldAddrB none 0 v162 h fun v _ => some v) h K163) h fun v164 h =>
 GuardW (wantV v154 true) (fun K165 =>
 RdK (load1 none v164 h fun v _ => some v) h K165) h fun v166 h =>
 GuardW (wantV v154 true) (fun K167 =>
 RdK (some a0) h K167) h fun v168 h =>
 GuardW (wantV v154 true) (fun K169 =>
 RdK (some (slot l125 45)) h K169) h fun v170 h =>
 GuardW (wantV v154 true) (fun K171 =>
 RdK (indexAddrS none 4 v168 v170 h fun v _ => some v) h K171) h fun v172 h =>
 GuardW (wantV v154 true) (fun K173 =>
 RdK (fieldAddrB none 1 v172 h fun v _ => some v) h K173) h fun v174 h =>
 GuardW (wantV v154 true) (fun K175 =>
 RdK (loadA none 2 v174 h fun v _ => some v) h K175) h fun v176 h =>
 GuardW (wantV v154 true) (fun K177 =>
 RdK (some a0) h K177) h fun v178 h =>
 GuardW (wantV v154 true) (fun K179 =>
 RdK (some (slot l125 45)) h K179) h fun v180 h =>
 GuardW (wantV v154 true) (fun K181 =>
 RdK (indexAddrS none 4 v178 v180 h fun v _ => some v) h K181) h fun v182 h =>
 GuardW (wantV v154 true) (fun K183 =>
 RdK (fieldAddrB none 3 v182 h fun v _ => some v) h K183) h fun v184 h =>
 GuardW (wantV v154 true) (fun K185 =>
 RdK (load1 none v184 h fun v _ => some v) h K185) h fun v186 h =>
 GuardW (wantV v154 true) (fun K187 =>
 CallW Try.prog 59 [v156, v166, v176] h fun v188 h =>
 SameK ((reG (wantV v154 true) (reV (some a0) v178)) && ((reG (wantV v154 true) (reV (some (slot l125 45)) v180)) && ((reG (wantV v154 true) (reV (indexAddrS none 4 v178 v180 h fun v _ => some v) v182)) && ((reG (wantV v154 true) (reV (fieldAddrB none 3 v182 h fun v _ => some v) v184)) && ((reG (wantV v154 true) (reV (load1 none v184 h fun v _ => some v) v186)) && true))))) (K187 v188 h)) h fun v189 h =>
 GuardW (wantV v154 true) (fun K190 =>
 RdK (binB none Try.prog .neq 28 false false v189 v186 h fun v _ => some v) h K190) h fun v191 h =>
 RdK (pickB none v154 v191 (Value.bool false) h fun v _ => some v) h fun v192 h =>
 CondW v192 (
 κ (Value.bool false) h) (
 binB False Try.prog .add 3 true false (slot l125 45) (Value.int .i64 (1)) h fun v193 h =>
 N124 [(slot l125 45), a0, v126, v127, v128, v129, v130, v131, v132, v133, v134, v135, v136, v138, v140, v142, v144, v146, v148, v150, v152, v153, v154, v156, v158, v160, v162, v164, v166, v168, v170, v172, v174, v176, v189, v178, v180, v182, v184, v186, v191, v192, (slot l125 42), (slot l125 45), v193, v193] h)

noncomputable def rs_10_2 (b1 : Nat) (v97 : Value) (v43 : Value) (a0 : Value) (h : Heap) (κ : Value → Heap → Prop) : Prop :=
 fieldAddrB False 1 (ptrTo b1) h fun v194 h =>
 load1 False v194 h fun v195 h =>
 fieldAddrB False 2 (ptrTo b1) h fun v196 h =>
 loadA False 2 v196 h fun v197 h =>
 CallW Try.prog 59 [v97, v195, v197] h fun v198 h =>
 binB False Try.prog .eql 28 false false v198 v43 h fun v199 h =>
 GuardW (wantV v199 true) (fun K200 =>
 K200 v43 h) h fun v201 h =>
 GuardW (wantV v199 true) (fun K202 =>
 fieldAddrB False 4 (ptrTo b1) h K202) h fun v203 h =>
 GuardW (wantV v199 true) (fun K204 =>
 load1 False v203 h K204) h fun v205 h =>
 GuardW (wantV v199 true) (fun K206 =>
 CallW Try.prog 43 [v201, v205] h K206) h fun v207 h =>
 pickB False v199 v207 (Value.bool false) h fun v208 h =>
 GuardW (wantV v208 true) (fun K209 =>
 K209 v97 h) h fun v210 h =>
 GuardW (wantV v208 true) (fun K211 =>
 lenSli False v210 h K211) h fun v212 h =>
 GuardW (wantV v208 true) (fun K213 =>
 K213 a0 h) h fun v214 h =>
 GuardW (wantV v208 true) (fun K215 =>
 lenSli False v214 h K215) h fun v216 h =>
 GuardW (wantV v208 true) (fun K217 =>
 binB False Try.prog .add 3 true false v216 (Value.int .i64 (1)) h K217) h fun v218 h =>
 GuardW (wantV v208 true) (fun K219 =>
 binB False Try.prog .leq 3 false false v212 v218 h K219) h fun v220 h =>
 pickB False v208 v220 (Value.bool false) h fun v221 h =>
 κ v221 h

noncomputable def rs_10_3 (v98 : Value) (v97 : Value) (a0 : Value) (b1 : Nat) (v43 : Value) (h : Heap) (κ : Value → Heap → Prop) : Prop :=
 unB False .not v98 h fun v121 h =>
 CondW v121 (
 lenSli False v97 h fun v122 h =>
 binB False Try.prog .eql 3 true false v122 (Value.int .i64 (0)) h fun v123 h =>
 κ v123 h) (
 LoopR [undef, undef, undef, undef, undef, undef, undef, undef, undef, undef, undef, undef, undef, undef, undef, undef, undef, undef, undef, undef, undef, undef, undef, undef, undef, undef, undef, undef, undef, undef, undef, undef, undef, undef, undef, undef, undef, undef, undef, undef, undef, undef, (Value.bool false), undef, undef, (Value.int .i64 (0))] h fun l125 h N124 =>
 lenSli False a0 h fun v126 h =>
 binB False Try.prog .lss 3 false false (slot l125 45) v126 h fun v127 h =>
 CondW v127 (
 rs_10_1 a0 l125 b1 v97 N124 v126 v127 h κ) (
 rs_10_2 b1 v97 v43 a0 h κ))

noncomputable def rs_10_4 (b1 : Nat) (a0 : Value) (l45 : List Value) (v43 : Value) (h : Heap) (κ : Value → Heap → Prop) : Prop :=
 loadA False 6 (ptrTo b1) h fun v95 h =>
 CallW Try.prog 60 [a0, v95] h fun v96 h =>
 extractB False 0 v96 h fun v97 h =>
 extractB False 1 v96 h fun v98 h =>
 binB False Try.prog .neq 4 false false v98 (slot l45 32) h fun v99 h =>
 GuardW (wantV v99 false) (fun K100 =>
 K100 a0 h) h fun v101 h =>
 GuardW (wantV v99 false) (fun K102 =>
 fieldAddrB False 1 (ptrTo b1) h K102) h fun v103 h =>
 GuardW (wantV v99 false) (fun K104 =>
 load1 False v103 h K104) h fun v105 h =>
 GuardW (wantV v99 false) (fun K106 =>
 fieldAddrB False 2 (ptrTo b1) h K106) h fun v107 h =>
 GuardW (wantV v99 false) (fun K108 =>
 loadA False 2 v107 h K108) h fun v109 h =>
 GuardW (wantV v99 false) (fun K110 =>
 fieldAddrB False 4 (ptrTo b1) h K110) h fun v111 h =>
 GuardW (wantV v99 false) (fun K112 =>
 load1 False v111 h K112) h fun v113 h =>
 GuardW (wantV v99 false) (fun K114 =>
 CallW Try.prog 61 [v101, v105, v109, v113] h K114) h fun v115 h =>
 GuardW (wantV v99 false) (fun K116 =>
 K116 (slot l45 32) h) h fun v117 h =>
 GuardW (wantV v99 false) (fun K118 =>
 binB False Try.prog .neq 4 false false v115 v117 h K118) h fun v119 h =>
 pickB False v99 (Value.bool true) v119 h fun v120 h =>
 CondW v120 (
 κ (Value.bool false) h) (
 rs_10_3 v98 v97 a0 b1 v43 h κ)

noncomputable def rs_10_5 (a0 : Value) (l45 : List Value) (b1 : Nat) (v43 : Value) (N44 : List Value → Heap → Prop) (h : Heap) (κ : Value → Heap → Prop) : Prop :=
 lenSli False a0 h fun v46 h =>
 binB False Try.prog .lss 3 false false (slot l45 35) v46 h fun v47 h =>
 CondW v47 (
 JoinR (fun N48 =>
 rs_10_0 a0 l45 b1 v43 N48 h) fun l49 h =>
 binB False Try.prog .add 3 true false (slot l45 35) (Value.int .i64 (1)) h fun v94 h =>
 N44 [(slot l45 35), a0, v46, v47, (slot l49 0), (slot l49 1), (slot l49 2), (slot l49 3), (slot l49 4), (slot l49 5), (slot l49 6), (slot l49 7), (slot l49 8), (slot l49 9), (slot l49 10), (slot l49 11), (slot l49 12), (slot l49 13), (slot l49 14), (slot l49 15), (slot l49 16), (slot l49 17), (slot l49 18), (slot l49 19), (slot l49 20), (slot l49 21), (slot l49 22), (slot l49 23), (slot l49 24), (slot l49 25), (slot l49 26), (slot l49 27), (slot l49 28), (slot l45 35), v94, v94] h) (
 rs_10_4 b1 a0 l45 v43 h κ)

noncomputable def rs_10_6 (b1 : Nat) (a0 : Value) (h : Heap) (κ : Value → Heap → Prop) : Prop :=
 fieldAddrB False 0 (ptrTo b1) h fun v13 h =>
 storeV False 1 v13 (Value.int .i64 (1)) h fun v14 h =>
 fieldAddrB False 5 (ptrTo b1) h fun v15 h =>
 storeV False 1 v15 (Value.int .i64 (1)) h fun v16 h =>
 fieldAddrB False 2 (ptrTo b1) h fun v17 h =>
 loadA False 2 v17 h fun v18 h =>
 CallW Try.prog 57 [v18] h fun v19 h =>
 binB False Try.prog .eql 36 true false v19 (Value.int .i64 (0)) h fun v20 h =>
 GuardW (wantV v20 true) (fun K21 =>
 fieldAddrB False 4 (ptrTo b1) h K21) h fun v22 h =>
 GuardW (wantV v20 true) (fun K23 =>
 load1 False v22 h K23) h fun v24 h =>
 GuardW (wantV v20 true) (fun K25 =>
 binB False Try.prog .neq 28 true false v24 (Value.int .i64 (0)) h K25) h fun v26 h =>
 pickB False v20 v26 (Value.bool false) h fun v27 h =>
 GuardW (wantV v27 true) (fun K28 =>
 fieldAddrB False 4 (ptrTo b1) h K28) h fun v29 h =>
 GuardW (wantV v27 true) (fun K30 =>
 load1 False v29 h K30) h fun v31 h =>
 GuardW (wantV v27 true) (fun K32 =>
 CallW Try.prog 49 [v31] h K32) h fun v33 h =>
 pickB False v27 v33 (Value.bool false) h fun v34 h =>
 RdK (some a0) h fun v35 h =>
 RdK (fieldAddrB none 1 (ptrTo b1) h fun v _ => some v) h fun v36 h =>
 RdK (load1 none v36 h fun v _ => some v) h fun v37 h =>
 RdK (fieldAddrB none 2 (ptrTo b1) h fun v _ => some v) h fun v38 h =>
 RdK (loadA none 2 v38 h fun v _ => some v) h fun v39 h =>
 RdK (fieldAddrB none 4 (ptrTo b1) h fun v _ => some v) h fun v40 h =>
 RdK (load1 none v40 h fun v _ => some v) h fun v41 h =>
 CallW Try.prog 59 [v35, v37, v39] h fun v42 h =>
 SameK ((reV (fieldAddrB none 4 (ptrTo b1) h fun v _ => some v) v40) && ((reV (load1 none v40 h fun v _ => some v) v41) && true)) (CallW Try.prog 58 [v42, v41] h fun v43 h =>
 LoopR [undef, undef, undef, undef, undef, undef, undef, undef, undef, undef, undef, undef, undef, undef, undef, undef, undef, undef, undef, undef, undef, undef, undef, undef, undef, undef, undef, undef, undef, undef, undef, undef, v34, undef, undef, (Value.int .i64 (0))] h fun l45 h N44 =>
 rs_10_5 a0 l45 b1 v43 N44 h κ)

noncomputable def rs_10_7 (a0 : Value) (b1 : Nat) (h : Heap) (κ : Value → Heap → Prop) : Prop :=
 lenSli False a0 h fun v4 h =>
 binB False Try.prog .gtr 3 true false v4 (Value.int .i64 (30)) h fun v5 h =>
 GuardW (wantV v5 false) (fun K6 =>
 K6 a0 h) h fun v7 h =>
 GuardW (wantV v5 false) (fun K8 =>
 CallW Try.prog 56 [v7] h K8) h fun v9 h =>
 GuardW (wantV v5 false) (fun K10 =>
 binB False Try.prog .neq 36 true false v9 (Value.int .i64 (0)) h K10) h fun v11 h =>
 pickB False v5 (Value.bool true) v11 h fun v12 h =>
 CondW v12 (
 κ (Value.bool true) h) (
 rs_10_6 b1 a0 h κ)

/-- latchstring/latchstringlaw15.AutomatonMay -/
theorem rs_10 (a0 a1 : Value) (h : Heap) (κ : Value → Heap → Prop) : BodyW Try.prog 10 [a0, a1] h κ = (
 cellsK False (Value.cells a1).toList 82 false fun o0 => newBlock False o0 h fun b1 h =>
 CallW Try.prog 55 [] h fun v2 h =>
 unB False .not v2 h fun v3 h =>
 CondW v3 (
 κ (Value.bool false) h) (
 rs_10_7 a0 b1 h κ)) := by kernel_rfl

noncomputable def rs_11_0 (v13 : Value) (l80 : List Value) (l76 : List Value) (N79 : List Value → Heap → Prop) (v81 : Value) (h : Heap) (κ : Value → Heap → Prop) : Prop :=
 RdK (some v13) h fun v82 h =>
 RdK (some (slot l80 44)) h fun v83 h =>
 RdK (indexAddrS none 4 v82 v83 h fun v _ => some v) h fun v84 h =>
 RdK (fieldAddrB none 1 v84 h fun v _ => some v) h fun v85 h =>
 RdK (loadA none 2 v85 h fun v _ => some v) h fun v86 h =>
 RdK (some v13) h fun v87 h =>
 RdK (some (slot l76 51)) h fun v88 h =>
 RdK (indexAddrS none 4 v87 v88 h fun v _ => some v) h fun v89 h =>
 RdK (fieldAddrB none 1 v89 h fun v _ => some v) h fun v90 h =>
 RdK (loadA none 2 v90 h fun v _ => some v) h fun v91 h =>
 RdK (binB none Try.prog .eql 27 false false v86 v91 h fun v _ => some v) h fun v92 h =>
 RdK (some v92) h fun v93 h =>
 GuardW (wantV v93 true) (fun K94 =>
 RdK (some v13) h K94) h fun v95 h =>
 GuardW (wantV v93 true) (fun K96 =>
 RdK (some (slot l80 44)) h K96) h fun v97 h =>
 GuardW (wantV v93 true) (fun K98 =>
 RdK (indexAddrS none 4 v95 v97 h fun v _ => some v) h K98) h fun v99 h =>
 GuardW (wantV v93 true) (fun K100 =>
 RdK (fieldAddrB none 0 v99 h fun v _ => some v) h K100) h fun v101 h =>
 GuardW (wantV v93 true) (fun K102 =>
 RdK (load1 none v101 h fun v _ => some v) h K102) h fun v103 h =>
 GuardW (wantV v93 true) (fun K104 =>
 RdK (some v13) h K104) h fun v105 h =>
 GuardW (wantV v93 true) (fun K106 =>
 RdK (some (slot l76 51)) h K106) h fun v107 h =>
 GuardW (wantV v93 true) (fun K108 =>
 RdK (indexAddrS none 4 v105 v107 h fun v _ => some v) h K108) h fun v109 h =>
 GuardW (wantV v93 true) (fun K110 =>
 RdK (fieldAddrB none 0 v109 h fun v _ => some v) h K110) h fun v111 h =>
 GuardW (wantV v93 true) (fun K112 =>
 RdK (load1 none v111 h fun v _ => some v) h K112) h fun v113 h =>
 GuardW (wantV v93 true) (fun K114 =>
 RdK (binB none Try.prog .eql 3 false false v103 v113 h fun v _ => some v) h K114) h fun v115 h =>
 GuardW (wantV v93 true) (fun K116 =>
 RdK (some v115) h K116) h fun v117 h =>
 GuardW (wantV v117 false) (fun K118 =>
 RdK (some v13) h K118) h fun v119 h =>
 GuardW (wantV v117 false) (fun K120 =>
 RdK (some (slot l80 44)) h K120) h fun v121 h =>
 GuardW (wantV v117 false) (fun K122 =>
 RdK (indexAddrS none 4 v119 v121 h fun v _ => some v) h K122) h fun v123 h =>
 GuardW (wantV v117 false) (fun K124 =>
 RdK (fieldAddrB none 3 v123 h fun v _ => some v) h K124) h fun v125 h =>
 GuardW (wantV v117 false) (fun K126 =>
 RdK (load1 none v125 h fun v _ => some v) h K126) h fun v127 h =>
 GuardW (wantV v117 false) (fun K128 =>
 RdK (some v13) h K128) h fun v129 h =>
 GuardW (wantV v117 false) (fun K130 =>
 RdK (some (slot l76 51)) h K130) h fun v131 h =>
 GuardW (wantV v117 false) (fun K132 =>
 RdK (indexAddrS none 4 v129 v131 h fun v _ => some v) h K132) h fun v133 h =>
 GuardW (wantV v117 false) (fun K134 =>
 RdK (fieldAddrB none 3 v133 h fun v _ => some v) h K134) h fun v135 h =>
 GuardW (wantV v117 false) (fun K136 =>
 RdK (load1 none v135 h fun v _ => some v) h K136) h fun v137 h =>
 GuardW (wantV v117 false) (fun K138 =>
 CallW Try.prog 16 [v127, v137] h K138) h fun v139 h =>
 GuardW (wantV v117 false) (fun K140 =>
 RdK (unB none .not v139 h fun v _ => some v) h K140) h fun v141 h =>
 GuardW (wantV v93 true) (fun K142 =>
 RdK (pickB none v117 (Value.bool true) v141 h fun v _ => some v) h K142) h fun v143 h =>
 RdK (pickB none v93 v143 (Value.bool false) h fun v _ => some v) h fun v144 h =>
 CondW v144 (
 κ (Value.bool false) h) (
 binB False Try.prog .add 3 true false (slot l80 44) (Value.int .i64 (1)) h fun v145 h =>
 N79 [(slot l80 44), (slot l76 51), v81, v82, v83, v84, v85, v86, v87, v88, v89, v90, v91, v92, v93, v95, v97, v99, v101, v103, v105, v107, v109, v111, v113, v115, v117, v119, v121, v123, v125, v127, v129, v131, v133, v135, v137, v139, v141, v143, v144, (slot l80 41), (slot l80 44), v145, v145] h)

noncomputable def rs_11_1 (v13 : Value) (l76 : List Value) (N75 : List Value → Heap → Prop) (N8 : List Value → Heap → Prop) (l5 : List Value) (a0 : Value) (v10 : Value) (v11 : Value) (v12 : Value) (v14 : Value) (v15 : Value) (v16 : Value) (v17 : Value) (l19 : List Value) (v20 : Value) (v21 : Value) (v46 : Value) (v47 : Value) (v48 : Value) (v49 : Value) (v51 : Value) (v53 : Value) (v55 : Value) (v57 : Value) (v59 : Value) (v61 : Value) (v63 : Value) (v65 : Value) (v67 : Value) (v69 : Value) (v71 : Value) (v73 : Value) (v74 : Value) (h : Heap) (κ : Value → Heap → Prop) : Prop :=
 lenSli False v13 h fun v77 h =>
 binB False Try.prog .lss 3 false false (slot l76 51) v77 h fun v78 h =>
 CondW v78 (
 LoopR [(slot l76 4), (slot l76 5), (slot l76 6), (slot l76 7), (slot l76 8), (slot l76 9), (slot l76 10), (slot l76 11), (slot l76 12), (slot l76 13), (slot l76 14), (slot l76 15), (slot l76 16), (slot l76 17), (slot l76 18), (slot l76 19), (slot l76 20), (slot l76 21), (slot l76 22), (slot l76 23), (slot l76 24), (slot l76 25), (slot l76 26), (slot l76 27), (slot l76 28), (slot l76 29), (slot l76 30), (slot l76 31), (slot l76 32), (slot l76 33), (slot l76 34), (slot l76 35), (slot l76 36), (slot l76 37), (slot l76 38), (slot l76 39), (slot l76 40), (slot l76 41), (slot l76 42), (slot l76 43), (slot l76 44), (slot l76 45), (slot l76 46), (slot l76 47), (Value.int .i64 (0))] h fun l80 h N79 =>
 binB False Try.prog .lss 3 false false (slot l80 44) (slot l76 51) h fun v81 h =>
 CondW v81 (
 rs_11_0 v13 l80 l76 N79 v81 h κ) (
 binB False Try.prog .add 3 true false (slot l76 51) (Value.int .i64 (1)) h fun v146 h =>
 N75 [(slot l76 51), v13, v77, v78, (slot l80 44), (slot l76 51), v81, (slot l80 3), (slot l80 4), (slot l80 5), (slot l80 6), (slot l80 7), (slot l80 8), (slot l80 9), (slot l80 10), (slot l80 11), (slot l80 12), (slot l80 13), (slot l80 14), (slot l80 15), (slot l80 16), (slot l80 17), (slot l80 18), (slot l80 19), (slot l80 20), (slot l80 21), (slot l80 22), (slot l80 23), (slot l80 24), (slot l80 25), (slot l80 26), (slot l80 27), (slot l80 28), (slot l80 29), (slot l80 30), (slot l80 31), (slot l80 32), (slot l80 33), (slot l80 34), (slot l80 35), (slot l80 36), (slot l80 37), (slot l80 38), (slot l80 39), (slot l80 40), (slot l80 41), (slot l80 42), (slot l80 43), (slot l80 44), (slot l76 51), v146, v146] h)) (
 N8 [(slot l5 66), a0, (slot l5 121), v10, v11, v12, v12, v13, v14, v13, v14, (slot l5 66), a0, (slot l5 121), v15, v16, v17, v17, (slot l19 20), v17, v20, v21, (slot l19 4), (slot l19 5), (slot l19 6), (slot l19 7), (slot l19 8), (slot l19 9), (slot l19 10), (slot l19 11), (slot l19 12), (slot l19 13), (slot l19 14), (slot l19 15), (slot l19 16), (slot l19 17), (slot l19 18), (slot l19 19), (slot l19 20), v14, (slot l19 17), v46, v14, v47, v13, v48, v49, v49, v51, v53, v55, v57, v59, v61, v63, v65, v67, v69, v71, v73, v74, v13, v13, (slot l76 51), v13, v77, v78, (slot l76 4), (slot l76 5), (slot l76 6), (slot l76 7), (slot l76 8), (slot l76 9), (slot l76 10), (slot l76 11), (slot l76 12), (slot l76 13), (slot l76 14), (slot l76 15), (slot l76 16), (slot l76 17), (slot l76 18), (slot l76 19), (slot l76 20), (slot l76 21), (slot l76 22), (slot l76 23), (slot l76 24), (slot l76 25), (slot l76 26), (slot l76 27), (slot l76 28), (slot l76 29), (slot l76 30), (slot l76 31), (slot l76 32), (slot l76 33), (slot l76 34), (slot l76 35), (slot l76 36), (slot l76 37), (slot l76 38), (slot l76 39), (slot l76 40), (slot l76 41), (slot l76 42), (slot l76 43), (slot l76 44), (slot l76 45), (slot l76 46), (slot l76 47), (slot l76 48), (slot l76 49), (slot l76 50), (slot l76 51)] h)

noncomputable def rs_11_2 (v13 : Value) (a0 : Value) (l5 : List Value) (N8 : List Value → Heap → Prop) (v10 : Value) (v11 : Value) (v12 : Value) (v14 : Value) (v15 : Value) (v16 : Value) (v17 : Value) (l19 : List Value) (v20 : Value) (v21 : Value) (v46 : Value) (v47 : Value) (h : Heap) (κ : Value → Heap → Prop) : Prop :=
 CallW Try.prog 56 [v13] h fun v48 h =>
 binB False Try.prog .neq 36 true false v48 (Value.int .i64 (0)) h fun v49 h =>
 GuardW (wantV v49 false) (fun K50 =>
 K50 a0 h) h fun v51 h =>
 GuardW (wantV v49 false) (fun K52 =>
 K52 (slot l5 121) h) h fun v53 h =>
 GuardW (wantV v49 false) (fun K54 =>
 indexAddrS False 6 v51 v53 h K54) h fun v55 h =>
 GuardW (wantV v49 false) (fun K56 =>
 fieldAddrB False 5 v55 h K56) h fun v57 h =>
 GuardW (wantV v49 false) (fun K58 =>
 load1 False v57 h K58) h fun v59 h =>
 GuardW (wantV v49 false) (fun K60 =>
 binB False Try.prog .neq 3 true false v59 (Value.int .i64 (1)) h K60) h fun v61 h =>
 GuardW (wantV v49 false) (fun K62 =>
 K62 v61 h) h fun v63 h =>
 GuardW (wantV v63 true) (fun K64 =>
 K64 v13 h) h fun v65 h =>
 GuardW (wantV v63 true) (fun K66 =>
 K66 (slot l5 66) h) h fun v67 h =>
 GuardW (wantV v63 true) (fun K68 =>
 CallW Try.prog 63 [v65, v67] h K68) h fun v69 h =>
 GuardW (wantV v63 true) (fun K70 =>
 unB False .not v69 h K70) h fun v71 h =>
 GuardW (wantV v49 false) (fun K72 =>
 pickB False v63 v71 (Value.bool false) h K72) h fun v73 h =>
 pickB False v49 (Value.bool true) v73 h fun v74 h =>
 CondW v74 (
 κ (Value.bool false) h) (
 LoopR [(slot l5 67), (slot l5 68), (slot l5 69), (slot l5 70), (slot l5 71), (slot l5 72), (slot l5 73), (slot l5 74), (slot l5 75), (slot l5 76), (slot l5 77), (slot l5 78), (slot l5 79), (slot l5 80), (slot l5 81), (slot l5 82), (slot l5 83), (slot l5 84), (slot l5 85), (slot l5 86), (slot l5 87), (slot l5 88), (slot l5 89), (slot l5 90), (slot l5 91), (slot l5 92), (slot l5 93), (slot l5 94), (slot l5 95), (slot l5 96), (slot l5 97), (slot l5 98), (slot l5 99), (slot l5 100), (slot l5 101), (slot l5 102), (slot l5 103), (slot l5 104), (slot l5 105), (slot l5 106), (slot l5 107), (slot l5 108), (slot l5 109), (slot l5 110), (slot l5 111), (slot l5 112), (slot l5 113), (slot l5 114), (slot l5 115), (slot l5 116), (slot l5 117), (Value.int .i64 (0))] h fun l76 h N75 =>
 rs_11_1 v13 l76 N75 N8 l5 a0 v10 v11 v12 v14 v15 v16 v17 l19 v20 v21 v46 v47 v48 v49 v51 v53 v55 v57 v59 v61 v63 v65 v67 v69 v71 v73 v74 h κ)

noncomputable def rs_11_3 (l19 : List Value) (v17 : Value) (a0 : Value) (l5 : List Value) (N18 : List Value → Heap → Prop) (v20 : Value) (v21 : Value) (h : Heap) : Prop :=
 RdK (some (slot l19 17)) h fun v22 h =>
 RdK (some v22) h fun v23 h =>
 GuardW (wantV v23 false) (fun K24 =>
 RdK (some v17) h K24) h fun v25 h =>
 GuardW (wantV v23 false) (fun K26 =>
 RdK (some (slot l19 20)) h K26) h fun v27 h =>
 GuardW (wantV v23 false) (fun K28 =>
 RdK (indexAddrS none 1 v25 v27 h fun v _ => some v) h K28) h fun v29 h =>
 GuardW (wantV v23 false) (fun K30 =>
 RdK (load1 none v29 h fun v _ => some v) h K30) h fun v31 h =>
 GuardW (wantV v23 false) (fun K32 =>
 RdK (some a0) h K32) h fun v33 h =>
 GuardW (wantV v23 false) (fun K34 =>
 RdK (some (slot l5 121)) h K34) h fun v35 h =>
 GuardW (wantV v23 false) (fun K36 =>
 RdK (indexAddrS none 6 v33 v35 h fun v _ => some v) h K36) h fun v37 h =>
 GuardW (wantV v23 false) (fun K38 =>
 RdK (fieldAddrB none 5 v37 h fun v _ => some v) h K38) h fun v39 h =>
 GuardW (wantV v23 false) (fun K40 =>
 RdK (load1 none v39 h fun v _ => some v) h K40) h fun v41 h =>
 GuardW (wantV v23 false) (fun K42 =>
 RdK (binB none Try.prog .eql 3 false false v31 v41 h fun v _ => some v) h K42) h fun v43 h =>
 RdK (pickB none v23 (Value.bool true) v43 h fun v _ => some v) h fun v44 h =>
 binB False Try.prog .add 3 true false (slot l19 20) (Value.int .i64 (1)) h fun v45 h =>
 N18 [(slot l19 20), v17, v20, v21, v22, v23, v25, v27, v29, v31, v33, v35, v37, v39, v41, v43, v44, v44, (slot l19 20), v45, v45] h

noncomputable def rs_11_4 (v14 : Value) (l19 : List Value) (N8 : List Value → Heap → Prop) (l5 : List Value) (a0 : Value) (v10 : Value) (v11 : Value) (v12 : Value) (v13 : Value) (v15 : Value) (v16 : Value) (v17 : Value) (v20 : Value) (v21 : Value) (h : Heap) (κ : Value → Heap → Prop) : Prop :=
 binB False Try.prog .neq 4 false false v14 (slot l19 17) h fun v46 h =>
 CondW v46 (
 κ (Value.bool false) h) (
 unB False .not v14 h fun v47 h =>
 CondW v47 (
 N8 [(slot l5 66), a0, (slot l5 121), v10, v11, v12, v12, v13, v14, v13, v14, (slot l5 66), a0, (slot l5 121), v15, v16, v17, v17, (slot l19 20), v17, v20, v21, (slot l19 4), (slot l19 5), (slot l19 6), (slot l19 7), (slot l19 8), (slot l19 9), (slot l19 10), (slot l19 11), (slot l19 12), (slot l19 13), (slot l19 14), (slot l19 15), (slot l19 16), (slot l19 17), (slot l19 18), (slot l19 19), (slot l19 20), v14, (slot l19 17), v46, v14, v47, (slot l5 48), (slot l5 49), (slot l5 50), (slot l5 51), (slot l5 52), (slot l5 53), (slot l5 54), (slot l5 55), (slot l5 56), (slot l5 57), (slot l5 58), (slot l5 59), (slot l5 60), (slot l5 61), (slot l5 62), (slot l5 63), (slot l5 64), (slot l5 65), (slot l5 66), (slot l5 67), (slot l5 68), (slot l5 69), (slot l5 70), (slot l5 71), (slot l5 72), (slot l5 73), (slot l5 74), (slot l5 75), (slot l5 76), (slot l5 77), (slot l5 78), (slot l5 79), (slot l5 80), (slot l5 81), (slot l5 82), (slot l5 83), (slot l5 84), (slot l5 85), (slot l5 86), (slot l5 87), (slot l5 88), (slot l5 89), (slot l5 90), (slot l5 91), (slot l5 92), (slot l5 93), (slot l5 94), (slot l5 95), (slot l5 96), (slot l5 97), (slot l5 98), (slot l5 99), (slot l5 100), (slot l5 101), (slot l5 102), (slot l5 103), (slot l5 104), (slot l5 105), (slot l5 106), (slot l5 107), (slot l5 108), (slot l5 109), (slot l5 110), (slot l5 111), (slot l5 112), (slot l5 113), (slot l5 114), (slot l5 115), (slot l5 116), (slot l5 117), (slot l5 118)] h) (
 rs_11_2 v13 a0 l5 N8 v10 v11 v12 v14 v15 v16 v17 l19 v20 v21 v46 v47 h κ))

noncomputable def rs_11_5 (a0 : Value) (l5 : List Value) (N8 : List Value → Heap → Prop) (h : Heap) (κ : Value → Heap → Prop) : Prop :=
 indexAddrS False 6 a0 (slot l5 121) h fun v10 h =>
 loadA False 6 v10 h fun v11 h =>
 CallW Try.prog 60 [(slot l5 66), v11] h fun v12 h =>
 extractB False 0 v12 h fun v13 h =>
 extractB False 1 v12 h fun v14 h =>
 indexAddrS False 6 a0 (slot l5 121) h fun v15 h =>
 loadA False 6 v15 h fun v16 h =>
 CallW Try.prog 62 [(slot l5 66), v16] h fun v17 h =>
 LoopR [(slot l5 22), (slot l5 23), (slot l5 24), (slot l5 25), (slot l5 26), (slot l5 27), (slot l5 28), (slot l5 29), (slot l5 30), (slot l5 31), (slot l5 32), (slot l5 33), (slot l5 34), (slot l5 35), (slot l5 36), (slot l5 37), (slot l5 38), (Value.bool false), (slot l5 40), (slot l5 41), (Value.int .i64 (0))] h fun l19 h N18 =>
 lenSli False v17 h fun v20 h =>
 binB False Try.prog .lss 3 false false (slot l19 20) v20 h fun v21 h =>
 CondW v21 (
 rs_11_3 l19 v17 a0 l5 N18 v20 v21 h) (
 rs_11_4 v14 l19 N8 l5 a0 v10 v11 v12 v13 v15 v16 v17 v20 v21 h κ)

noncomputable def rs_11_6 (a0 : Value) (l5 : List Value) (N4 : List Value → Heap → Prop) (h : Heap) (κ : Value → Heap → Prop) : Prop :=
 lenSli False a0 h fun v6 h =>
 binB False Try.prog .lss 3 false false (slot l5 121) v6 h fun v7 h =>
 CondW v7 (
 JoinR (fun N8 =>
 rs_11_5 a0 l5 N8 h κ) fun l9 h =>
 binB False Try.prog .add 3 true false (slot l5 121) (Value.int .i64 (1)) h fun v147 h =>
 N4 [(slot l5 121), a0, v6, v7, (slot l9 0), (slot l9 1), (slot l9 2), (slot l9 3), (slot l9 4), (slot l9 5), (slot l9 6), (slot l9 7), (slot l9 8), (slot l9 9), (slot l9 10), (slot l9 11), (slot l9 12), (slot l9 13), (slot l9 14), (slot l9 15), (slot l9 16), (slot l9 17), (slot l9 18), (slot l9 19), (slot l9 20), (slot l9 21), (slot l9 22), (slot l9 23), (slot l9 24), (slot l9 25), (slot l9 26), (slot l9 27), (slot l9 28), (slot l9 29), (slot l9 30), (slot l9 31), (slot l9 32), (slot l9 33), (slot l9 34), (slot l9 35), (slot l9 36), (slot l9 37), (slot l9 38), (slot l9 39), (slot l9 40), (slot l9 41), (slot l9 42), (slot l9 43), (slot l9 44), (slot l9 45), (slot l9 46), (slot l9 47), (slot l9 48), (slot l9 49), (slot l9 50), (slot l9 51), (slot l9 52), (slot l9 53), (slot l9 54), (slot l9 55), (slot l9 56), (slot l9 57), (slot l9 58), (slot l9 59), (slot l9 60), (slot l9 61), (slot l9 62), (slot l9 63), (slot l9 64), (slot l9 65), (slot l9 66), (slot l9 67), (slot l9 68), (slot l9 69), (slot l9 70), (slot l9 71), (slot l9 72), (slot l9 73), (slot l9 74), (slot l9 75), (slot l9 76), (slot l9 77), (slot l9 78), (slot l9 79), (slot l9 80), (slot l9 81), (slot l9 82), (slot l9 83), (slot l9 84), (slot l9 85), (slot l9 86), (slot l9 87), (slot l9 88), (slot l9 89), (slot l9 90), (slot l9 91), (slot l9 92), (slot l9 93), (slot l9 94), (slot l9 95), (slot l9 96), (slot l9 97), (slot l9 98), (slot l9 99), (slot l9 100), (slot l9 101), (slot l9 102), (slot l9 103), (slot l9 104), (slot l9 105), (slot l9 106), (slot l9 107), (slot l9 108), (slot l9 109), (slot l9 110), (slot l9 111), (slot l9 112), (slot l9 113), (slot l9 114), (slot l5 121), v147, v147] h) (
 κ (Value.bool true) h)

/-- latchstring/latchstringlaw15.AutomatonSafe -/
theorem rs_11 (a0 : Value) (h : Heap) (κ : Value → Heap → Prop) : BodyW Try.prog 11 [a0] h κ = (
 CallW Try.prog 55 [] h fun v0 h =>
 unB False .not v0 h fun v1 h =>
 CondW v1 (
 κ (Value.bool false) h) (
 lenSli False a0 h fun v2 h =>
 binB False Try.prog .gtr 3 true false v2 (Value.int .i64 (60)) h fun v3 h =>
 CondW v3 (
 κ (Value.bool true) h) (
 LoopR [undef, undef, undef, undef, undef, undef, undef, undef, undef, undef, undef, undef, undef, undef, undef, undef, undef, undef, undef, undef, undef, undef, undef, undef, undef, undef, undef, undef, undef, undef, undef, undef, undef, undef, undef, undef, undef, undef, undef, undef, undef, undef, undef, undef, undef, undef, undef, undef, undef, undef, undef, undef, undef, undef, undef, undef, undef, undef, undef, undef, undef, undef, undef, undef, undef, undef, (Value.slice none 0 0), undef, undef, undef, undef, undef, undef, undef, undef, undef, undef, undef, undef, undef, undef, undef, undef, undef, undef, undef, undef, undef, undef, undef, undef, undef, undef, undef, undef, undef, undef, undef, undef, undef, undef, undef, undef, undef, undef, undef, undef, undef, undef, undef, undef, undef, (Value.bool false), undef, undef, undef, undef, undef, undef, undef, undef, (Value.int .i64 (0))] h fun l5 h N4 =>
 rs_11_6 a0 l5 N4 h κ))) := by kernel_rfl

noncomputable def rs_12_0 (b1 : Nat) (v21 : Value) (a0 : Value) (N23 : List Value → Heap → Prop) (v22 : Value) (v26 : Value) (v28 : Value) (v30 : Value) (v31 : Value) (v33 : Value) (v35 : Value) (v37 : Value) (v39 : Value) (v41 : Value) (v43 : Value) (v45 : Value) (v46 : Value) (h : Heap) (κ : Value → Heap → Prop) : Prop :=
 fieldAddrB False 1 (ptrTo b1) h fun v47 h =>
 load1 False v47 h fun v48 h =>
 fieldAddrB False 2 (ptrTo b1) h fun v49 h =>
 loadA False 2 v49 h fun v50 h =>
 fillB False [(0, 1), (1, 1), (2, 2), (5, 1)] [(Value.int .i64 (2)), v48, v50, (Value.int .i64 (1))] [(Value.int .i64 (0)), (Value.int .i64 (0)), (Value.int .i64 (0)), (Value.int .i64 (0)), (Value.int .i64 (0)), (Value.int .i64 (0))] fun cs51 =>
 CallW Try.prog 60 [v21, (Value.agg (Array.mk cs51))] h fun v52 h =>
 extractB False 0 v52 h fun v53 h =>
 extractB False 1 v52 h fun v54 h =>
 unB False .not v54 h fun v55 h =>
 GuardW (wantV v55 false) (fun K56 =>
 K56 v53 h) h fun v57 h =>
 GuardW (wantV v55 false) (fun K58 =>
 K58 a0 h) h fun v59 h =>
 GuardW (wantV v55 false) (fun K60 =>
 CallW Try.prog 63 [v57, v59] h K60) h fun v61 h =>
 GuardW (wantV v55 false) (fun K62 =>
 unB False .not v61 h K62) h fun v63 h =>
 pickB False v55 (Value.bool true) v63 h fun v64 h =>
 CondW v64 (
 κ (Value.bool false) h) (
 N23 [v22, v22, v26, v28, v30, v31, v31, v33, v35, v37, v39, v41, v43, v45, v46, v21, v47, v48, v49, v50, (Value.agg (Array.mk cs51)), v52, v52, v53, v54, v53, v54, v54, v55, v55, v57, v59, v61, v63, v64, (Value.bool false)] h)

noncomputable def rs_12_1 (b3 : Nat) (v21 : Value) (b1 : Nat) (v106 : Value) (h : Heap) (κ : Value → Heap → Prop) : Prop :=
 loadA False 6 (ptrTo b3) h fun v114 h =>
 CallW Try.prog 60 [v21, v114] h fun v115 h =>
 extractB False 0 v115 h fun v116 h =>
 extractB False 1 v115 h fun v117 h =>
 loadA False 6 (ptrTo b1) h fun v118 h =>
 CallW Try.prog 60 [v106, v118] h fun v119 h =>
 extractB False 0 v119 h fun v120 h =>
 extractB False 1 v119 h fun v121 h =>
 GuardW (wantV v117 true) (fun K122 =>
 K122 v121 h) h fun v123 h =>
 pickB False v117 v123 (Value.bool false) h fun v124 h =>
 GuardW (wantV v124 true) (fun K125 =>
 K125 v116 h) h fun v126 h =>
 GuardW (wantV v124 true) (fun K127 =>
 K127 v120 h) h fun v128 h =>
 GuardW (wantV v124 true) (fun K129 =>
 CallW Try.prog 63 [v126, v128] h K129) h fun v130 h =>
 pickB False v124 v130 (Value.bool false) h fun v131 h =>
 κ v131 h

noncomputable def rs_12_2 (b3 : Nat) (a0 : Value) (v22 : Value) (v21 : Value) (b1 : Nat) (h : Heap) (κ : Value → Heap → Prop) : Prop :=
 loadA False 6 (ptrTo b3) h fun v104 h =>
 CallW Try.prog 60 [a0, v104] h fun v105 h =>
 extractB False 0 v105 h fun v106 h =>
 extractB False 1 v105 h fun v107 h =>
 unB False .not v22 h fun v108 h =>
 GuardW (wantV v108 false) (fun K109 =>
 K109 v107 h) h fun v110 h =>
 GuardW (wantV v108 false) (fun K111 =>
 unB False .not v110 h K111) h fun v112 h =>
 pickB False v108 (Value.bool true) v112 h fun v113 h =>
 CondW v113 (
 κ (Value.bool true) h) (
 rs_12_1 b3 v21 b1 v106 h κ)

noncomputable def rs_12_3 (v22 : Value) (b1 : Nat) (a0 : Value) (v21 : Value) (N23 : List Value → Heap → Prop) (h : Heap) (κ : Value → Heap → Prop) : Prop :=
 GuardW (wantV v22 true) (fun K25 =>
 fieldAddrB False 0 (ptrTo b1) h K25) h fun v26 h =>
 GuardW (wantV v22 true) (fun K27 =>
 load1 False v26 h K27) h fun v28 h =>
 GuardW (wantV v22 true) (fun K29 =>
 binB False Try.prog .eql 3 true false v28 (Value.int .i64 (1)) h K29) h fun v30 h =>
 pickB False v22 v30 (Value.bool false) h fun v31 h =>
 GuardW (wantV v31 true) (fun K32 =>
 K32 a0 h) h fun v33 h =>
 GuardW (wantV v31 true) (fun K34 =>
 fieldAddrB False 1 (ptrTo b1) h K34) h fun v35 h =>
 GuardW (wantV v31 true) (fun K36 =>
 load1 False v35 h K36) h fun v37 h =>
 GuardW (wantV v31 true) (fun K38 =>
 fieldAddrB False 2 (ptrTo b1) h K38) h fun v39 h =>
 GuardW (wantV v31 true) (fun K40 =>
 loadA False 2 v39 h K40) h fun v41 h =>
 GuardW (wantV v31 true) (fun K42 =>
 CallW Try.prog 59 [v33, v37, v41] h K42) h fun v43 h =>
 GuardW (wantV v31 true) (fun K44 =>
 binB False Try.prog .eql 28 true false v43 (Value.int .i64 (0)) h K44) h fun v45 h =>
 pickB False v31 v45 (Value.bool false) h fun v46 h =>
 CondW v46 (
 rs_12_0 b1 v21 a0 N23 v22 v26 v28 v30 v31 v33 v35 v37 v39 v41 v43 v45 v46 h κ) (
 N23 [v22, v22, v26, v28, v30, v31, v31, v33, v35, v37, v39, v41, v43, v45, v46, undef, undef, undef, undef, undef, undef, undef, undef, undef, undef, undef, undef, undef, undef, undef, undef, undef, undef, undef, undef, (Value.bool false)] h)

noncomputable def rs_12_4 (b1 : Nat) (b3 : Nat) (a0 : Value) (v22 : Value) (v21 : Value) (h : Heap) (κ : Value → Heap → Prop) : Prop :=
 fieldAddrB False 1 (ptrTo b1) h fun v65 h =>
 load1 False v65 h fun v66 h =>
 fieldAddrB False 1 (ptrTo b3) h fun v67 h =>
 load1 False v67 h fun v68 h =>
 binB False Try.prog .eql 3 false false v66 v68 h fun v69 h =>
 GuardW (wantV v69 false) (fun K70 =>
 fieldAddrB False 2 (ptrTo b1) h K70) h fun v71 h =>
 GuardW (wantV v69 false) (fun K72 =>
 loadA False 2 v71 h K72) h fun v73 h =>
 GuardW (wantV v69 false) (fun K74 =>
 fieldAddrB False 2 (ptrTo b3) h K74) h fun v75 h =>
 GuardW (wantV v69 false) (fun K76 =>
 loadA False 2 v75 h K76) h fun v77 h =>
 GuardW (wantV v69 false) (fun K78 =>
 binB False Try.prog .eql 27 false false v73 v77 h K78) h fun v79 h =>
 pickB False v69 (Value.bool true) v79 h fun v80 h =>
 GuardW (wantV v80 false) (fun K81 =>
 fieldAddrB False 0 (ptrTo b1) h K81) h fun v82 h =>
 GuardW (wantV v80 false) (fun K83 =>
 load1 False v82 h K83) h fun v84 h =>
 GuardW (wantV v80 false) (fun K85 =>
 binB False Try.prog .eql 3 true false v84 (Value.int .i64 (3)) h K85) h fun v86 h =>
 pickB False v80 (Value.bool true) v86 h fun v87 h =>
 GuardW (wantV v87 false) (fun K88 =>
 fieldAddrB False 0 (ptrTo b3) h K88) h fun v89 h =>
 GuardW (wantV v87 false) (fun K90 =>
 load1 False v89 h K90) h fun v91 h =>
 GuardW (wantV v87 false) (fun K92 =>
 binB False Try.prog .eql 3 true false v91 (Value.int .i64 (3)) h K92) h fun v93 h =>
 pickB False v87 (Value.bool true) v93 h fun v94 h =>
 GuardW (wantV v94 false) (fun K95 =>
 fieldAddrB False 2 (ptrTo b1) h K95) h fun v96 h =>
 GuardW (wantV v94 false) (fun K97 =>
 loadA False 2 v96 h K97) h fun v98 h =>
 GuardW (wantV v94 false) (fun K99 =>
 CallW Try.prog 57 [v98] h K99) h fun v100 h =>
 GuardW (wantV v94 false) (fun K101 =>
 binB False Try.prog .neq 36 true false v100 (Value.int .i64 (0)) h K101) h fun v102 h =>
 pickB False v94 (Value.bool true) v102 h fun v103 h =>
 CondW v103 (
 κ (Value.bool true) h) (
 rs_12_2 b3 a0 v22 v21 b1 h κ)

noncomputable def rs_12_5 (b1 : Nat) (b3 : Nat) (a0 : Value) (h : Heap) (κ : Value → Heap → Prop) : Prop :=
 fieldAddrB False 5 (ptrTo b1) h fun v15 h =>
 storeV False 1 v15 (Value.int .i64 (1)) h fun v16 h =>
 fieldAddrB False 5 (ptrTo b3) h fun v17 h =>
 storeV False 1 v17 (Value.int .i64 (1)) h fun v18 h =>
 loadA False 6 (ptrTo b1) h fun v19 h =>
 CallW Try.prog 60 [a0, v19] h fun v20 h =>
 extractB False 0 v20 h fun v21 h =>
 extractB False 1 v20 h fun v22 h =>
 JoinR (fun N23 =>
 rs_12_3 v22 b1 a0 v21 N23 h κ) fun l24 h =>
 rs_12_4 b1 b3 a0 v22 v21 h κ

noncomputable def rs_12_6 (a0 : Value) (b1 : Nat) (b3 : Nat) (h : Heap) (κ : Value → Heap → Prop) : Prop :=
 lenSli False a0 h fun v6 h =>
 binB False Try.prog .gtr 3 true false v6 (Value.int .i64 (30)) h fun v7 h =>
 GuardW (wantV v7 false) (fun K8 =>
 K8 a0 h) h fun v9 h =>
 GuardW (wantV v7 false) (fun K10 =>
 CallW Try.prog 56 [v9] h K10) h fun v11 h =>
 GuardW (wantV v7 false) (fun K12 =>
 binB False Try.prog .neq 36 true false v11 (Value.int .i64 (0)) h K12) h fun v13 h =>
 pickB False v7 (Value.bool true) v13 h fun v14 h =>
 CondW v14 (
 κ (Value.bool true) h) (
 rs_12_5 b1 b3 a0 h κ)

/-- latchstring/latchstringlaw15.AutomatonTurns -/
theorem rs_12 (a0 a1 a2 : Value) (h : Heap) (κ : Value → Heap → Prop) : BodyW Try.prog 12 [a0, a1, a2] h κ = (
 cellsK False (Value.cells a1).toList 82 false fun o0 => newBlock False o0 h fun b1 h =>
 cellsK False (Value.cells a2).toList 82 false fun o2 => newBlock False o2 h fun b3 h =>
 CallW Try.prog 55 [] h fun v4 h =>
 unB False .not v4 h fun v5 h =>
 CondW v5 (
 κ (Value.bool false) h) (
 rs_12_6 a0 b1 b3 h κ)) := by kernel_rfl

noncomputable def rs_13_0 (a1 : Value) (v20 : Value) (a0 : Value) (h : Heap) (κ : Value → Heap → Prop) : Prop :=
 sliceB False 82 6 a1 none (some v20) none h fun v40 h =>
 CallW Try.prog 64 [a0, v40] h fun v41 h =>
 extractB False 0 v41 h fun v42 h =>
 extractB False 1 v41 h fun v43 h =>
 extractB False 2 v41 h fun v44 h =>
 indexAddrS False 6 a1 v20 h fun v45 h =>
 loadA False 6 v45 h fun v46 h =>
 CallW Try.prog 60 [v42, v46] h fun v47 h =>
 extractB False 0 v47 h fun v48 h =>
 extractB False 1 v47 h fun v49 h =>
 GuardW (wantV v44 true) (fun K50 =>
 K50 v49 h) h fun v51 h =>
 GuardW (wantV v44 true) (fun K52 =>
 unB False .not v51 h K52) h fun v53 h =>
 pickB False v44 v53 (Value.bool false) h fun v54 h =>
 κ v54 h

noncomputable def rs_13_1 (v20 : Value) (a1 : Value) (v19 : Value) (a0 : Value) (h : Heap) (κ : Value → Heap → Prop) : Prop :=
 binB False Try.prog .lss 3 true false v20 (Value.int .i64 (0)) h fun v23 h =>
 GuardW (wantV v23 false) (fun K24 =>
 K24 v20 h) h fun v25 h =>
 GuardW (wantV v23 false) (fun K26 =>
 K26 a1 h) h fun v27 h =>
 GuardW (wantV v23 false) (fun K28 =>
 lenSli False v27 h K28) h fun v29 h =>
 GuardW (wantV v23 false) (fun K30 =>
 binB False Try.prog .geq 3 false false v25 v29 h K30) h fun v31 h =>
 pickB False v23 (Value.bool true) v31 h fun v32 h =>
 GuardW (wantV v32 false) (fun K33 =>
 K33 v19 h) h fun v34 h =>
 GuardW (wantV v32 false) (fun K35 =>
 lenSli False v34 h K35) h fun v36 h =>
 GuardW (wantV v32 false) (fun K37 =>
 binB False Try.prog .neq 3 true false v36 (Value.int .i64 (0)) h K37) h fun v38 h =>
 pickB False v32 (Value.bool true) v38 h fun v39 h =>
 CondW v39 (
 κ (Value.bool false) h) (
 rs_13_0 a1 v20 a0 h κ)

noncomputable def rs_13_2 (a1 : Value) (a2 : Value) (a0 : Value) (v19 : Value) (h : Heap) (κ : Value → Heap → Prop) : Prop :=
 lenSli False a1 h fun v55 h =>
 binB False Try.prog .add 3 true false v55 (Value.int .i64 (1)) h fun v56 h =>
 CallW Try.prog 18 [a2, v56] h fun v57 h =>
 sliceB False 82 6 a1 none (some v57) none h fun v58 h =>
 CallW Try.prog 64 [a0, v58] h fun v59 h =>
 extractB False 0 v59 h fun v60 h =>
 extractB False 1 v59 h fun v61 h =>
 extractB False 2 v59 h fun v62 h =>
 sliceB False 82 6 a1 (some v57) none none h fun v63 h =>
 CallW Try.prog 64 [v60, v63] h fun v64 h =>
 extractB False 0 v64 h fun v65 h =>
 extractB False 1 v64 h fun v66 h =>
 extractB False 2 v64 h fun v67 h =>
 GuardW (wantV v62 true) (fun K68 =>
 K68 v67 h) h fun v69 h =>
 pickB False v62 v69 (Value.bool false) h fun v70 h =>
 GuardW (wantV v70 true) (fun K71 =>
 K71 v65 h) h fun v72 h =>
 GuardW (wantV v70 true) (fun K73 =>
 K73 v19 h) h fun v74 h =>
 GuardW (wantV v70 true) (fun K75 =>
 CallW Try.prog 63 [v72, v74] h K75) h fun v76 h =>
 pickB False v70 v76 (Value.bool false) h fun v77 h =>
 GuardW (wantV v77 true) (fun K78 =>
 K78 v19 h) h fun v79 h =>
 GuardW (wantV v77 true) (fun K80 =>
 CallW Try.prog 56 [v79] h K80) h fun v81 h =>
 GuardW (wantV v77 true) (fun K82 =>
 binB False Try.prog .eql 36 true false v81 (Value.int .i64 (0)) h K82) h fun v83 h =>
 pickB False v77 v83 (Value.bool false) h fun v84 h =>
 κ v84 h

noncomputable def rs_13_3 (a0 : Value) (a1 : Value) (a2 : Value) (h : Heap) (κ : Value → Heap → Prop) : Prop :=
 CallW Try.prog 64 [a0, a1] h fun v18 h =>
 extractB False 0 v18 h fun v19 h =>
 extractB False 1 v18 h fun v20 h =>
 extractB False 2 v18 h fun v21 h =>
 unB False .not v21 h fun v22 h =>
 CondW v22 (
 rs_13_1 v20 a1 v19 a0 h κ) (
 rs_13_2 a1 a2 a0 v19 h κ)

noncomputable def rs_13_4 (a0 : Value) (a1 : Value) (a2 : Value) (h : Heap) (κ : Value → Heap → Prop) : Prop :=
 lenSli False a0 h fun v2 h =>
 binB False Try.prog .gtr 3 true false v2 (Value.int .i64 (30)) h fun v3 h =>
 GuardW (wantV v3 false) (fun K4 =>
 K4 a1 h) h fun v5 h =>
 GuardW (wantV v3 false) (fun K6 =>
 lenSli False v5 h K6) h fun v7 h =>
 GuardW (wantV v3 false) (fun K8 =>
 binB False Try.prog .gtr 3 true false v7 (Value.int .i64 (30)) h K8) h fun v9 h =>
 pickB False v3 (Value.bool true) v9 h fun v10 h =>
 GuardW (wantV v10 false) (fun K11 =>
 K11 a0 h) h fun v12 h =>
 GuardW (wantV v10 false) (fun K13 =>
 CallW Try.prog 56 [v12] h K13) h fun v14 h =>
 GuardW (wantV v10 false) (fun K15 =>
 binB False Try.prog .neq 36 true false v14 (Value.int .i64 (0)) h K15) h fun v16 h =>
 pickB False v10 (Value.bool true) v16 h fun v17 h =>
 CondW v17 (
 κ (Value.bool true) h) (
 rs_13_3 a0 a1 a2 h κ)

/-- latchstring/latchstringlaw15.AutomatonRuns -/
theorem rs_13 (a0 a1 a2 : Value) (h : Heap) (κ : Value → Heap → Prop) : BodyW Try.prog 13 [a0, a1, a2] h κ = (
 CallW Try.prog 55 [] h fun v0 h =>
 unB False .not v0 h fun v1 h =>
 CondW v1 (
 κ (Value.bool false) h) (
 rs_13_4 a0 a1 a2 h κ)) := by kernel_rfl

/-- latchstring/latchstringlaw15.lives -/
theorem rs_55 (h : Heap) (κ : Value → Heap → Prop) : BodyW Try.prog 55 [] h κ = (
 CallW Try.prog 106 [] h fun v0 h =>
 CallW Try.prog 26 [(Value.int .i64 (0))] h fun v1 h =>
 fillB False [(0, 1), (1, 1), (2, 2), (4, 1)] [(Value.int .i64 (1)), (Value.int .i64 (2)), v1, (Value.int .i64 (3))] [(Value.int .i64 (0)), (Value.int .i64 (0)), (Value.int .i64 (0)), (Value.int .i64 (0)), (Value.int .i64 (0)), (Value.int .i64 (0))] fun cs2 =>
 CallW Try.prog 62 [v0, (Value.agg (Array.mk cs2))] h fun v3 h =>
 fillB False [(0, 1), (1, 1), (2, 1), (3, 1)] [(Value.int .i64 (2)), (Value.int .i64 (3)), (Value.int .i64 (4)), (Value.int .i64 (5))] (repeatL [(Value.int .i64 (0))] 4) fun cs6 => cellsK False cs6 3 false fun o4 => newBlock False o4 h fun b5 h =>
 CallW Try.prog 105 [v3, (sliceTo 4 4 b5)] h fun v7 h =>
 κ v7 h) := by kernel_rfl

noncomputable def rs_56_0 (a0 : Value) (l2 : List Value) (N1 : List Value → Heap → Prop) (v3 : Value) (h : Heap) (κ : Value → Heap → Prop) : Prop :=
 indexAddrS False 4 a0 (slot l2 38) h fun v4 h =>
 loadA False 4 v4 h fun v5 h =>
 cellsK False [(Value.int .i64 (0)), (Value.int .i64 (0)), (Value.int .i64 (0)), (Value.int .i64 (0))] 30 false fun o6 => newBlock False o6 h fun b7 h =>
 storeV False 4 (ptrTo b7) v5 h fun v8 h =>
 RdK (some (slot l2 38)) h fun v9 h =>
 RdK (binB none Try.prog .eql 3 true false v9 (Value.int .i64 (0)) h fun v _ => some v) h fun v10 h =>
 RdK (some v10) h fun v11 h =>
 GuardW (wantV v11 false) (fun K12 =>
 RdK (some a0) h K12) h fun v13 h =>
 GuardW (wantV v11 false) (fun K14 =>
 RdK (some (slot l2 38)) h K14) h fun v15 h =>
 GuardW (wantV v11 false) (fun K16 =>
 RdK (binB none Try.prog .sub 3 true false v15 (Value.int .i64 (1)) h fun v _ => some v) h K16) h fun v17 h =>
 GuardW (wantV v11 false) (fun K18 =>
 RdK (indexAddrS none 4 v13 v17 h fun v _ => some v) h K18) h fun v19 h =>
 GuardW (wantV v11 false) (fun K20 =>
 RdK (loadA none 4 v19 h fun v _ => some v) h K20) h fun v21 h =>
 GuardW (wantV v11 false) (fun K22 =>
 RdK (loadA none 4 (ptrTo b7) h fun v _ => some v) h K22) h fun v23 h =>
 GuardW (wantV v11 false) (fun K24 =>
 CallW Try.prog 107 [v21, v23] h K24) h fun v25 h =>
 GuardW (wantV v11 false) (fun K26 =>
 RdK (binB none Try.prog .lss 3 true false v25 (Value.int .i64 (0)) h fun v _ => some v) h K26) h fun v27 h =>
 RdK (pickB none v11 (Value.bool true) v27 h fun v _ => some v) h fun v28 h =>
 fieldAddrB False 1 (ptrTo b7) h fun v29 h =>
 loadA False 2 v29 h fun v30 h =>
 fieldAddrB False 3 (ptrTo b7) h fun v31 h =>
 load1 False v31 h fun v32 h =>
 CallW Try.prog 108 [v30, v32] h fun v33 h =>
 unB False .not v33 h fun v34 h =>
 GuardW (wantV v34 false) (fun K35 =>
 K35 v28 h) h fun v36 h =>
 GuardW (wantV v34 false) (fun K37 =>
 unB False .not v36 h K37) h fun v38 h =>
 pickB False v34 (Value.bool true) v38 h fun v39 h =>
 GuardW (wantV v39 false) (fun K40 =>
 K40 a0 h) h fun v41 h =>
 GuardW (wantV v39 false) (fun K42 =>
 K42 (slot l2 38) h) h fun v43 h =>
 GuardW (wantV v39 false) (fun K44 =>
 sliceB False 30 4 v41 none (some v43) none h K44) h fun v45 h =>
 GuardW (wantV v39 false) (fun K46 =>
 K46 (Value.func (.func 109) (Array.mk []) (Array.mk [(ptrTo b7)])) h) h fun v47 h =>
 GuardW (wantV v39 false) (fun K48 =>
 CallW Try.prog 102 [v45, v47] h K48) h fun v49 h =>
 pickB False v39 (Value.bool true) v49 h fun v50 h =>
 CondW v50 (
 κ (Value.int .i64 (2)) h) (
 binB False Try.prog .add 3 true false (slot l2 38) (Value.int .i64 (1)) h fun v51 h =>
 N1 [v3, (slot l2 38), v4, v5, (ptrTo b7), (slot l2 38), v9, v10, v11, v13, v15, v17, v19, v21, v23, v25, v27, v28, v28, v29, v30, v31, v32, v33, v34, v34, v36, v38, v39, v39, v41, v43, v45, v47, v49, v50, (slot l2 36), v51, v51] h)

/-- latchstring/automaton.Check -/
theorem rs_56 (a0 : Value) (h : Heap) (κ : Value → Heap → Prop) : BodyW Try.prog 56 [a0] h κ = (
 lenSli False a0 h fun v0 h =>
 LoopR [undef, undef, undef, undef, undef, undef, undef, undef, undef, undef, undef, undef, undef, undef, undef, undef, undef, undef, undef, undef, undef, undef, undef, undef, undef, undef, undef, undef, undef, undef, undef, undef, undef, undef, undef, undef, (Value.int .i64 (0)), undef, (Value.int .i64 (0))] h fun l2 h N1 =>
 binB False Try.prog .lss 3 false false (slot l2 38) v0 h fun v3 h =>
 CondW v3 (
 rs_56_0 a0 l2 N1 v3 h κ) (
 κ (Value.int .i64 (0)) h)) := by kernel_rfl

/-- latchstring/automaton.Mode -/
theorem rs_59 (a0 a1 a2 : Value) (h : Heap) (κ : Value → Heap → Prop) : BodyW Try.prog 59 [a0, a1, a2] h κ = (
 cellsK False (Value.cells a2).toList 27 false fun o0 => newBlock False o0 h fun b1 h =>
 loadA False 2 (ptrTo b1) h fun v2 h =>
 CallW Try.prog 111 [a0, a1, v2] h fun v3 h =>
 binB False Try.prog .lss 3 true false v3 (Value.int .i64 (0)) h fun v4 h =>
 CondW v4 (
 κ (Value.int .i64 (0)) h) (
 indexAddrS False 4 a0 v3 h fun v5 h =>
 fieldAddrB False 3 v5 h fun v6 h =>
 load1 False v6 h fun v7 h =>
 κ v7 h)) := by kernel_rfl

noncomputable def rs_60_0 (b1 : Nat) (a0 : Value) (v9 : Value) (N10 : List Value → Heap → Prop) (v12 : Value) (v13 : Value) (v14 : Value) (v15 : Value) (v16 : Value) (v17 : Value) (h : Heap) : Prop :=
 fieldAddrB False 1 (ptrTo b1) h fun v18 h =>
 load1 False v18 h fun v19 h =>
 fieldAddrB False 2 (ptrTo b1) h fun v20 h =>
 loadA False 2 v20 h fun v21 h =>
 fieldAddrB False 4 (ptrTo b1) h fun v22 h =>
 load1 False v22 h fun v23 h =>
 CallW Try.prog 113 [a0, v19, v21, v23] h fun v24 h =>
 cellsK False [(Value.int .i64 (0)), (Value.int .i64 (0)), (Value.int .i64 (0)), (Value.int .i64 (0))] 30 false fun o25 => newBlock False o25 h fun b26 h =>
 storeV False 4 (ptrTo b26) v24 h fun v27 h =>
 loadA False 4 (ptrTo b26) h fun v28 h =>
 CallW Try.prog 114 [v9, v28, (Value.func (.func 107) (Array.mk []) (Array.mk []))] h fun v29 h =>
 extractB False 0 v29 h fun v30 h =>
 extractB False 1 v29 h fun v31 h =>
 CondW v31 (
 loadA False 4 (ptrTo b26) h fun v32 h =>
 indexAddrS False 4 v9 v30 h fun v33 h =>
 storeV False 4 v33 v32 h fun v34 h =>
 N10 [v12, v13, v14, v14, v15, v16, v17, v17, a0, v18, v19, v20, v21, v22, v23, v24, (ptrTo b26), v9, v28, v29, v29, v30, v31, v30, v31, v31, v9, v30, v32, v33, undef, undef, undef, undef, undef, undef, undef, undef, v9] h) (
 loadA False 4 (ptrTo b26) h fun v35 h =>
 fillB False [(0, 4)] [v35] (repeatL [(Value.int .i64 (0)), (Value.int .i64 (0)), (Value.int .i64 (0)), (Value.int .i64 (0))] 1) fun cs38 => cellsK False cs38 30 false fun o36 => newBlock False o36 h fun b37 h =>
 CallW Try.prog 85 [v9, v30, (sliceTo 1 1 b37)] h fun v39 h =>
 N10 [v12, v13, v14, v14, v15, v16, v17, v17, a0, v18, v19, v20, v21, v22, v23, v24, (ptrTo b26), v9, v28, v29, v29, v30, v31, v30, v31, v31, undef, undef, undef, undef, v9, v30, v35, (sliceTo 1 1 b37), v39, undef, undef, undef, v39] h)

noncomputable def rs_60_1 (b1 : Nat) (a0 : Value) (v9 : Value) (N10 : List Value → Heap → Prop) (v12 : Value) (v13 : Value) (v14 : Value) (h : Heap) : Prop :=
 fieldAddrB False 0 (ptrTo b1) h fun v15 h =>
 load1 False v15 h fun v16 h =>
 binB False Try.prog .eql 3 true false v16 (Value.int .i64 (1)) h fun v17 h =>
 CondW v17 (
 rs_60_0 b1 a0 v9 N10 v12 v13 v14 v15 v16 v17 h) (
 CallW Try.prog 90 [v9, (Value.func (.func 115) (Array.mk []) (Array.mk [(ptrTo b1)]))] h fun v40 h =>
 N10 [v12, v13, v14, v14, v15, v16, v17, v17, undef, undef, undef, undef, undef, undef, undef, undef, undef, undef, undef, undef, undef, undef, undef, undef, undef, undef, undef, undef, undef, undef, undef, undef, undef, undef, undef, v9, (Value.func (.func 115) (Array.mk []) (Array.mk [(ptrTo b1)])), v40, v40] h)

noncomputable def rs_60_2 (a0 : Value) (b1 : Nat) (h : Heap) (κ : Value → Heap → Prop) : Prop :=
 CallW Try.prog 81 [a0] h fun v9 h =>
 JoinR (fun N10 =>
 fieldAddrB False 5 (ptrTo b1) h fun v12 h =>
 load1 False v12 h fun v13 h =>
 binB False Try.prog .neq 3 true false v13 (Value.int .i64 (1)) h fun v14 h =>
 CondW v14 (
 N10 [v12, v13, v14, v14, undef, undef, undef, undef, undef, undef, undef, undef, undef, undef, undef, undef, undef, undef, undef, undef, undef, undef, undef, undef, undef, undef, undef, undef, undef, undef, undef, undef, undef, undef, undef, undef, undef, undef, v9] h) (
 rs_60_1 b1 a0 v9 N10 v12 v13 v14 h)) fun l11 h =>
 κ (Value.tuple (Array.mk [(slot l11 38), (Value.bool true)])) h

/-- latchstring/automaton.Step -/
theorem rs_60 (a0 a1 : Value) (h : Heap) (κ : Value → Heap → Prop) : BodyW Try.prog 60 [a0, a1] h κ = (
 cellsK False (Value.cells a1).toList 82 false fun o0 => newBlock False o0 h fun b1 h =>
 RdK (some a0) h fun v2 h =>
 RdK (loadA none 6 (ptrTo b1) h fun v _ => some v) h fun v3 h =>
 RdK (fieldAddrB none 5 (ptrTo b1) h fun v _ => some v) h fun v4 h =>
 RdK (load1 none v4 h fun v _ => some v) h fun v5 h =>
 CallW Try.prog 62 [v2, v3] h fun v6 h =>
 SameK ((reV (fieldAddrB none 5 (ptrTo b1) h fun v _ => some v) v4) && ((reV (load1 none v4 h fun v _ => some v) v5) && true)) (CallW Try.prog 112 [v6, v5] h fun v7 h =>
 RdK (unB none .not v7 h fun v _ => some v) h fun v8 h =>
 CondW v8 (
 κ (Value.tuple (Array.mk [(Value.slice none 0 0), (Value.bool false)])) h) (
 rs_60_2 a0 b1 h κ))) := by kernel_rfl

/-- latchstring/automaton.May -/
theorem rs_61 (a0 a1 a2 a3 : Value) (h : Heap) (κ : Value → Heap → Prop) : BodyW Try.prog 61 [a0, a1, a2, a3] h κ = (
 cellsK False (Value.cells a2).toList 27 false fun o0 => newBlock False o0 h fun b1 h =>
 loadA False 2 (ptrTo b1) h fun v2 h =>
 CallW Try.prog 113 [a0, a1, v2, a3] h fun v3 h =>
 cellsK False [(Value.int .i64 (0)), (Value.int .i64 (0)), (Value.int .i64 (0)), (Value.int .i64 (0))] 30 false fun o4 => newBlock False o4 h fun b5 h =>
 storeV False 4 (ptrTo b5) v3 h fun v6 h =>
 loadA False 2 (ptrTo b1) h fun v7 h =>
 CallW Try.prog 108 [v7, a3] h fun v8 h =>
 GuardW (wantV v8 true) (fun K9 =>
 K9 a0 h) h fun v10 h =>
 GuardW (wantV v8 true) (fun K11 =>
 K11 (Value.func (.func 116) (Array.mk []) (Array.mk [(ptrTo b5)])) h) h fun v12 h =>
 GuardW (wantV v8 true) (fun K13 =>
 CallW Try.prog 102 [v10, v12] h K13) h fun v14 h =>
 GuardW (wantV v8 true) (fun K15 =>
 unB False .not v14 h K15) h fun v16 h =>
 pickB False v8 v16 (Value.bool false) h fun v17 h =>
 κ v17 h) := by kernel_rfl

noncomputable def rs_62_0 (b1 : Nat) (a0 : Value) (h : Heap) (κ : Value → Heap → Prop) : Prop :=
 newBlock False (.map [] 0) h fun b5 h =>
 mapUpdateB False Try.prog 3 (mapTo b5) (Value.int .i64 (1)) (Value.func (.func 118) (Array.mk []) (Array.mk [])) h fun v6 h =>
 mapUpdateB False Try.prog 3 (mapTo b5) (Value.int .i64 (2)) (Value.func (.func 119) (Array.mk []) (Array.mk [])) h fun v7 h =>
 mapUpdateB False Try.prog 3 (mapTo b5) (Value.int .i64 (4)) (Value.func (.func 120) (Array.mk []) (Array.mk [])) h fun v8 h =>
 mapUpdateB False Try.prog 3 (mapTo b5) (Value.int .i64 (3)) (Value.func (.func 117) (Array.mk []) (Array.mk [])) h fun v9 h =>
 fieldAddrB False 0 (ptrTo b1) h fun v10 h =>
 load1 False v10 h fun v11 h =>
 lookupB False Try.prog 3 Value.nilFunc true (mapTo b5) v11 h fun v12 h =>
 extractB False 0 v12 h fun v13 h =>
 extractB False 1 v12 h fun v14 h =>
 CondW v14 (
 loadA False 6 (ptrTo b1) h fun v15 h =>
 CallV Try.prog v13 [a0, v15] h fun v16 h =>
 κ v16 h) (
 κ (Value.slice none 0 0) h)

/-- latchstring/automaton.Codes -/
theorem rs_62 (a0 a1 : Value) (h : Heap) (κ : Value → Heap → Prop) : BodyW Try.prog 62 [a0, a1] h κ = (
 cellsK False (Value.cells a1).toList 82 false fun o0 => newBlock False o0 h fun b1 h =>
 CallW Try.prog 56 [a0] h fun v2 h =>
 binB False Try.prog .neq 36 true false v2 (Value.int .i64 (0)) h fun v3 h =>
 CondW v3 (
 κ (Value.slice none 0 0) h) (
 rs_62_0 b1 a0 h κ)) := by kernel_rfl

/-- latchstring/automaton.Same -/
theorem rs_63 (a0 a1 : Value) (h : Heap) (κ : Value → Heap → Prop) : BodyW Try.prog 63 [a0, a1] h κ = (
 CallW Try.prog 121 [a0, a1] h fun v0 h =>
 κ v0 h) := by kernel_rfl

noncomputable def rs_64_0 (a1 : Value) (l5 : List Value) (N4 : List Value → Heap → Prop) (v6 : Value) (h : Heap) (κ : Value → Heap → Prop) : Prop :=
 indexAddrS False 6 a1 (slot l5 22) h fun v7 h =>
 loadA False 6 v7 h fun v8 h =>
 cellsK False [(Value.int .i64 (0)), (Value.int .i64 (0)), (Value.int .i64 (0)), (Value.int .i64 (0)), (Value.int .i64 (0)), (Value.int .i64 (0))] 82 false fun o9 => newBlock False o9 h fun b10 h =>
 storeV False 6 (ptrTo b10) v8 h fun v11 h =>
 loadA False 6 (ptrTo b10) h fun v12 h =>
 CallW Try.prog 60 [(slot l5 20), v12] h fun v13 h =>
 extractB False 0 v13 h fun v14 h =>
 extractB False 1 v13 h fun v15 h =>
 unB False .not v15 h fun v16 h =>
 CondW v16 (
 κ (Value.tuple (Array.mk [(Value.slice none 0 0), (slot l5 22), (Value.bool false)])) h) (
 binB False Try.prog .add 3 true false (slot l5 22) (Value.int .i64 (1)) h fun v17 h =>
 N4 [v6, (slot l5 22), v7, v8, (ptrTo b10), (slot l5 22), (slot l5 20), v12, v13, v13, v14, v15, v14, v15, v15, v16, (slot l5 16), (slot l5 17), (slot l5 18), v14, v14, v17, v17] h)

noncomputable def rs_64_1 (a0 : Value) (a1 : Value) (h : Heap) (κ : Value → Heap → Prop) : Prop :=
 CallW Try.prog 81 [a0] h fun v2 h =>
 lenSli False a1 h fun v3 h =>
 LoopR [undef, undef, undef, undef, undef, undef, undef, undef, undef, undef, undef, undef, undef, undef, undef, undef, undef, (Value.int .i64 (0)), (Value.bool false), undef, v2, undef, (Value.int .i64 (0))] h fun l5 h N4 =>
 binB False Try.prog .lss 3 false false (slot l5 22) v3 h fun v6 h =>
 CondW v6 (
 rs_64_0 a1 l5 N4 v6 h κ) (
 κ (Value.tuple (Array.mk [(slot l5 20), (Value.int .i64 (0)), (Value.bool true)])) h)

/-- latchstring/automaton.Run -/
theorem rs_64 (a0 a1 : Value) (h : Heap) (κ : Value → Heap → Prop) : BodyW Try.prog 64 [a0, a1] h κ = (
 CallW Try.prog 56 [a0] h fun v0 h =>
 binB False Try.prog .neq 36 true false v0 (Value.int .i64 (0)) h fun v1 h =>
 CondW v1 (
 κ (Value.tuple (Array.mk [(Value.slice none 0 0), (Value.int .i64 (0)), (Value.bool false)])) h) (
 rs_64_1 a0 a1 h κ)) := by kernel_rfl

noncomputable def rs_105_0 (a0 : Value) (l4 : List Value) (a1 : Value) (N3 : List Value → Heap → Prop) (v5 : Value) (v6 : Value) (h : Heap) (κ : Value → Heap → Prop) : Prop :=
 RdK (some a0) h fun v7 h =>
 RdK (some (slot l4 16)) h fun v8 h =>
 RdK (indexAddrS none 1 v7 v8 h fun v _ => some v) h fun v9 h =>
 RdK (load1 none v9 h fun v _ => some v) h fun v10 h =>
 RdK (some a1) h fun v11 h =>
 RdK (some (slot l4 16)) h fun v12 h =>
 RdK (indexAddrS none 1 v11 v12 h fun v _ => some v) h fun v13 h =>
 RdK (load1 none v13 h fun v _ => some v) h fun v14 h =>
 RdK (binB none Try.prog .neq 3 false false v10 v14 h fun v _ => some v) h fun v15 h =>
 CondW v15 (
 κ (Value.bool false) h) (
 binB False Try.prog .add 3 true false (slot l4 16) (Value.int .i64 (1)) h fun v16 h =>
 N3 [(slot l4 16), a0, v5, v6, v7, v8, v9, v10, v11, v12, v13, v14, v15, (slot l4 13), (slot l4 16), v16, v16] h)

/-- latchstring/latchstringkit.Same[int] -/
theorem rs_105 (a0 a1 : Value) (h : Heap) (κ : Value → Heap → Prop) : BodyW Try.prog 105 [a0, a1] h κ = (
 lenSli False a0 h fun v0 h =>
 lenSli False a1 h fun v1 h =>
 binB False Try.prog .neq 3 false false v0 v1 h fun v2 h =>
 CondW v2 (
 κ (Value.bool false) h) (
 LoopR [undef, undef, undef, undef, undef, undef, undef, undef, undef, undef, undef, undef, undef, (Value.bool false), undef, undef, (Value.int .i64 (0))] h fun l4 h N3 =>
 lenSli False a0 h fun v5 h =>
 binB False Try.prog .lss 3 false false (slot l4 16) v5 h fun v6 h =>
 CondW v6 (
 rs_105_0 a0 l4 a1 N3 v5 v6 h κ) (
 κ (Value.bool true) h))) := by kernel_rfl

/-- latchstring/latchstringlaw15.one -/
theorem rs_106 (h : Heap) (κ : Value → Heap → Prop) : BodyW Try.prog 106 [] h κ = (
 CallW Try.prog 26 [(Value.int .i64 (0))] h fun v0 h =>
 fillB False [(0, 1), (1, 2), (3, 1)] [(Value.int .i64 (1)), v0, (Value.int .i64 (6))] [(Value.int .i64 (0)), (Value.int .i64 (0)), (Value.int .i64 (0)), (Value.int .i64 (0))] fun cs1 =>
 fillB False [(0, 4)] [(Value.agg (Array.mk cs1))] (repeatL [(Value.int .i64 (0)), (Value.int .i64 (0)), (Value.int .i64 (0)), (Value.int .i64 (0))] 1) fun cs4 => cellsK False cs4 30 false fun o2 => newBlock False o2 h fun b3 h =>
 κ (sliceTo 1 1 b3) h) := by kernel_rfl

/-- latchstring/automaton.compare -/
theorem rs_107 (a0 a1 : Value) (h : Heap) (κ : Value → Heap → Prop) : BodyW Try.prog 107 [a0, a1] h κ = (
 cellsK False (Value.cells a0).toList 30 false fun o0 => newBlock False o0 h fun b1 h =>
 cellsK False (Value.cells a1).toList 30 false fun o2 => newBlock False o2 h fun b3 h =>
 RdK (fieldAddrB none 0 (ptrTo b1) h fun v _ => some v) h fun v4 h =>
 RdK (load1 none v4 h fun v _ => some v) h fun v5 h =>
 RdK (fieldAddrB none 0 (ptrTo b3) h fun v _ => some v) h fun v6 h =>
 RdK (load1 none v6 h fun v _ => some v) h fun v7 h =>
 RdK (fieldAddrB none 1 (ptrTo b1) h fun v _ => some v) h fun v8 h =>
 RdK (loadA none 2 v8 h fun v _ => some v) h fun v9 h =>
 RdK (fieldAddrB none 1 (ptrTo b3) h fun v _ => some v) h fun v10 h =>
 RdK (loadA none 2 v10 h fun v _ => some v) h fun v11 h =>
 CallW Try.prog 130 [v5, v7] h fun v12 h =>
 SameK ((reV (fieldAddrB none 1 (ptrTo b1) h fun v _ => some v) v8) && ((reV (loadA none 2 v8 h fun v _ => some v) v9) && ((reV (fieldAddrB none 1 (ptrTo b3) h fun v _ => some v) v10) && ((reV (loadA none 2 v10 h fun v _ => some v) v11) && true)))) (CallW Try.prog 84 [v9, v11] h fun v13 h =>
 AlK (fillB none [(0, 1), (1, 1)] [v12, v13] (repeatL [(Value.int .i64 (0))] 2) fun cs => cellsK none cs 3 false fun o => some (o, sliceTo 2 2)) h fun v14 h =>
 CallW Try.prog 129 [v14] h fun v15 h =>
 κ v15 h)) := by kernel_rfl

/-- latchstring/automaton.asked -/
theorem rs_108 (a0 a1 : Value) (h : Heap) (κ : Value → Heap → Prop) : BodyW Try.prog 108 [a0, a1] h κ = (
 cellsK False (Value.cells a0).toList 27 false fun o0 => newBlock False o0 h fun b1 h =>
 loadA False 2 (ptrTo b1) h fun v2 h =>
 CallW Try.prog 97 [v2] h fun v3 h =>
 binB False Try.prog .eql 36 true false v3 (Value.int .i64 (0)) h fun v4 h =>
 GuardW (wantV v4 true) (fun K5 =>
 K5 a1 h) h fun v6 h =>
 GuardW (wantV v4 true) (fun K7 =>
 binB False Try.prog .neq 28 true false v6 (Value.int .i64 (0)) h K7) h fun v8 h =>
 pickB False v4 v8 (Value.bool false) h fun v9 h =>
 GuardW (wantV v9 true) (fun K10 =>
 K10 a1 h) h fun v11 h =>
 GuardW (wantV v9 true) (fun K12 =>
 CallW Try.prog 127 [v11] h K12) h fun v13 h =>
 pickB False v9 v13 (Value.bool false) h fun v14 h =>
 κ v14 h) := by kernel_rfl

/-- latchstring/automaton.Check$1 -/
theorem rs_109 (a0 a1 : Value) (h : Heap) (κ : Value → Heap → Prop) : BodyW Try.prog 109 [a0, a1] h κ = (
 cellsK False (Value.cells a0).toList 30 false fun o0 => newBlock False o0 h fun b1 h =>
 loadA False 4 (ptrTo b1) h fun v2 h =>
 loadA False 4 a1 h fun v3 h =>
 CallW Try.prog 110 [v2, v3] h fun v4 h =>
 κ v4 h) := by kernel_rfl

/-- latchstring/automaton.clash -/
theorem rs_110 (a0 a1 : Value) (h : Heap) (κ : Value → Heap → Prop) : BodyW Try.prog 110 [a0, a1] h κ = (
 cellsK False (Value.cells a0).toList 30 false fun o0 => newBlock False o0 h fun b1 h =>
 cellsK False (Value.cells a1).toList 30 false fun o2 => newBlock False o2 h fun b3 h =>
 fieldAddrB False 1 (ptrTo b1) h fun v4 h =>
 loadA False 2 v4 h fun v5 h =>
 fieldAddrB False 1 (ptrTo b3) h fun v6 h =>
 loadA False 2 v6 h fun v7 h =>
 binB False Try.prog .eql 27 false false v5 v7 h fun v8 h =>
 GuardW (wantV v8 true) (fun K9 =>
 fieldAddrB False 0 (ptrTo b1) h K9) h fun v10 h =>
 GuardW (wantV v8 true) (fun K11 =>
 load1 False v10 h K11) h fun v12 h =>
 GuardW (wantV v8 true) (fun K13 =>
 fieldAddrB False 0 (ptrTo b3) h K13) h fun v14 h =>
 GuardW (wantV v8 true) (fun K15 =>
 load1 False v14 h K15) h fun v16 h =>
 GuardW (wantV v8 true) (fun K17 =>
 binB False Try.prog .neq 3 false false v12 v16 h K17) h fun v18 h =>
 pickB False v8 v18 (Value.bool false) h fun v19 h =>
 GuardW (wantV v19 true) (fun K20 =>
 fieldAddrB False 3 (ptrTo b1) h K20) h fun v21 h =>
 GuardW (wantV v19 true) (fun K22 =>
 load1 False v21 h K22) h fun v23 h =>
 GuardW (wantV v19 true) (fun K24 =>
 fieldAddrB False 3 (ptrTo b3) h K24) h fun v25 h =>
 GuardW (wantV v19 true) (fun K26 =>
 load1 False v25 h K26) h fun v27 h =>
 GuardW (wantV v19 true) (fun K28 =>
 CallW Try.prog 65 [v23, v27] h K28) h fun v29 h =>
 GuardW (wantV v19 true) (fun K30 =>
 unB False .not v29 h K30) h fun v31 h =>
 pickB False v19 v31 (Value.bool false) h fun v32 h =>
 κ v32 h) := by kernel_rfl

/-- latchstring/automaton.place -/
theorem rs_111 (a0 a1 a2 : Value) (h : Heap) (κ : Value → Heap → Prop) : BodyW Try.prog 111 [a0, a1, a2] h κ = (
 cellsK False (Value.cells a1).toList 3 false fun o0 => newBlock False o0 h fun b1 h =>
 cellsK False (Value.cells a2).toList 27 false fun o2 => newBlock False o2 h fun b3 h =>
 CallW Try.prog 82 [a0, (Value.func (.func 136) (Array.mk []) (Array.mk [(ptrTo b1), (ptrTo b3)]))] h fun v4 h =>
 κ v4 h) := by kernel_rfl

/-- slices.Contains[[]int,int] -/
theorem rs_112 (a0 a1 : Value) (h : Heap) (κ : Value → Heap → Prop) : BodyW Try.prog 112 [a0, a1] h κ = (
 CallW Try.prog 137 [a0, a1] h fun v0 h =>
 binB False Try.prog .geq 3 true false v0 (Value.int .i64 (0)) h fun v1 h =>
 κ v1 h) := by kernel_rfl

/-- latchstring/automaton.wanted -/
theorem rs_113 (a0 a1 a2 a3 : Value) (h : Heap) (κ : Value → Heap → Prop) : BodyW Try.prog 113 [a0, a1, a2, a3] h κ = (
 cellsK False (Value.cells a2).toList 27 false fun o0 => newBlock False o0 h fun b1 h =>
 cellsK False [(Value.int .i64 (0)), (Value.int .i64 (0)), (Value.int .i64 (0)), (Value.int .i64 (0))] 30 false fun o2 => newBlock False o2 h fun b3 h =>
 RdK (some a1) h fun v4 h =>
 RdK (loadA none 2 (ptrTo b1) h fun v _ => some v) h fun v5 h =>
 RdK (some a0) h fun v6 h =>
 RdK (some a1) h fun v7 h =>
 RdK (loadA none 2 (ptrTo b1) h fun v _ => some v) h fun v8 h =>
 RdK (some a3) h fun v9 h =>
 CallW Try.prog 59 [v6, v7, v8] h fun v10 h =>
 SameK ((reV (some a1) v4) && ((reV (loadA none 2 (ptrTo b1) h fun v _ => some v) v5) && ((reV (some a3) v9) && true))) (CallW Try.prog 78 [v10, v9] h fun v11 h =>
 SameK ((reV (some a1) v4) && ((reV (loadA none 2 (ptrTo b1) h fun v _ => some v) v5) && true)) (RdK (fillB none [(0, 1), (1, 2), (3, 1)] [v4, v5, v11] [(Value.int .i64 (0)), (Value.int .i64 (0)), (Value.int .i64 (0)), (Value.int .i64 (0))] fun cs => some (Value.agg (Array.mk cs))) h fun v12 h =>
 storeV False 4 (ptrTo b3) v12 h fun v13 h =>
 loadA False 4 (ptrTo b3) h fun v14 _ => κ v14 h))) := by kernel_rfl

noncomputable def rs_114_0 (l4 : List Value) (a2 : Value) (a0 : Value) (b1 : Nat) (N3 : List Value → Heap → Prop) (v5 : Value) (h : Heap) : Prop :=
 binB False Try.prog .add 3 false false (slot l4 20) (slot l4 22) h fun v6 h =>
 convI False .u64 v6 h fun v7 h =>
 binB False Try.prog .shr 143 true false v7 (Value.int .u64 (1)) h fun v8 h =>
 convI False .i64 v8 h fun v9 h =>
 RdK (some a2) h fun v10 h =>
 RdK (some a0) h fun v11 h =>
 RdK (some v9) h fun v12 h =>
 RdK (indexAddrS none 4 v11 v12 h fun v _ => some v) h fun v13 h =>
 RdK (loadA none 4 v13 h fun v _ => some v) h fun v14 h =>
 RdK (loadA none 4 (ptrTo b1) h fun v _ => some v) h fun v15 h =>
 CallV Try.prog v10 [v14, v15] h fun v16 h =>
 RdK (binB none Try.prog .lss 3 true false v16 (Value.int .i64 (0)) h fun v _ => some v) h fun v17 h =>
 CondW v17 (
 binB False Try.prog .add 3 true false v9 (Value.int .i64 (1)) h fun v18 h =>
 N3 [(slot l4 20), (slot l4 22), v5, (slot l4 20), (slot l4 22), v6, v7, v8, v9, v9, v10, v11, v12, v13, v14, v15, v16, v17, v9, v18, v18, (slot l4 21), (slot l4 22)] h) (
 N3 [(slot l4 20), (slot l4 22), v5, (slot l4 20), (slot l4 22), v6, v7, v8, v9, v9, v10, v11, v12, v13, v14, v15, v16, v17, (slot l4 18), (slot l4 19), (slot l4 20), v9, v9] h)

noncomputable def rs_114_1 (l4 : List Value) (v2 : Value) (a2 : Value) (a0 : Value) (b1 : Nat) (h : Heap) (κ : Value → Heap → Prop) : Prop :=
 RdK (some (slot l4 20)) h fun v19 h =>
 RdK (some (slot l4 20)) h fun v20 h =>
 RdK (some v2) h fun v21 h =>
 RdK (binB none Try.prog .lss 3 false false v20 v21 h fun v _ => some v) h fun v22 h =>
 RdK (some v22) h fun v23 h =>
 GuardW (wantV v23 true) (fun K24 =>
 RdK (some a2) h K24) h fun v25 h =>
 GuardW (wantV v23 true) (fun K26 =>
 RdK (some a0) h K26) h fun v27 h =>
 GuardW (wantV v23 true) (fun K28 =>
 RdK (some (slot l4 20)) h K28) h fun v29 h =>
 GuardW (wantV v23 true) (fun K30 =>
 RdK (indexAddrS none 4 v27 v29 h fun v _ => some v) h K30) h fun v31 h =>
 GuardW (wantV v23 true) (fun K32 =>
 RdK (loadA none 4 v31 h fun v _ => some v) h K32) h fun v33 h =>
 GuardW (wantV v23 true) (fun K34 =>
 RdK (loadA none 4 (ptrTo b1) h fun v _ => some v) h K34) h fun v35 h =>
 GuardW (wantV v23 true) (fun K36 =>
 CallV Try.prog v25 [v33, v35] h fun v37 h =>
 SameK ((reV (some (slot l4 20)) v19) && true) (K36 v37 h)) h fun v38 h =>
 GuardW (wantV v23 true) (fun K39 =>
 RdK (binB none Try.prog .eql 3 true false v38 (Value.int .i64 (0)) h fun v _ => some v) h K39) h fun v40 h =>
 RdK (pickB none v23 v40 (Value.bool false) h fun v _ => some v) h fun v41 h =>
 SameK ((reG (wantV v23 true) (reV (binB none Try.prog .eql 3 true false v38 (Value.int .i64 (0)) h fun v _ => some v) v40)) && ((reV (pickB none v23 v40 (Value.bool false) h fun v _ => some v) v41) && true)) (κ (Value.tuple (Array.mk [v19, v41])) h)

/-- slices.BinarySearchFunc[[]latchstring/api.Held,latchstring/api.Held,latchstring/api.Held] -/
theorem rs_114 (a0 a1 a2 : Value) (h : Heap) (κ : Value → Heap → Prop) : BodyW Try.prog 114 [a0, a1, a2] h κ = (
 cellsK False (Value.cells a1).toList 30 false fun o0 => newBlock False o0 h fun b1 h =>
 lenSli False a0 h fun v2 h =>
 LoopR [undef, undef, undef, undef, undef, undef, undef, undef, undef, undef, undef, undef, undef, undef, undef, undef, undef, undef, undef, undef, (Value.int .i64 (0)), undef, v2] h fun l4 h N3 =>
 binB False Try.prog .lss 3 false false (slot l4 20) (slot l4 22) h fun v5 h =>
 CondW v5 (
 rs_114_0 l4 a2 a0 b1 N3 v5 h) (
 rs_114_1 l4 v2 a2 a0 b1 h κ)) := by kernel_rfl

/-- latchstring/automaton.Step$1 -/
theorem rs_115 (a0 a1 : Value) (h : Heap) (κ : Value → Heap → Prop) : BodyW Try.prog 115 [a0, a1] h κ = (
 cellsK False (Value.cells a0).toList 30 false fun o0 => newBlock False o0 h fun b1 h =>
 fieldAddrB False 0 (ptrTo b1) h fun v2 h =>
 load1 False v2 h fun v3 h =>
 fieldAddrB False 1 a1 h fun v4 h =>
 load1 False v4 h fun v5 h =>
 binB False Try.prog .eql 3 false false v3 v5 h fun v6 h =>
 GuardW (wantV v6 true) (fun K7 =>
 fieldAddrB False 0 a1 h K7) h fun v8 h =>
 GuardW (wantV v6 true) (fun K9 =>
 load1 False v8 h K9) h fun v10 h =>
 GuardW (wantV v6 true) (fun K11 =>
 binB False Try.prog .eql 3 true false v10 (Value.int .i64 (3)) h K11) h fun v12 h =>
 GuardW (wantV v6 true) (fun K13 =>
 K13 v12 h) h fun v14 h =>
 GuardW (wantV v14 false) (fun K15 =>
 fieldAddrB False 1 (ptrTo b1) h K15) h fun v16 h =>
 GuardW (wantV v14 false) (fun K17 =>
 loadA False 2 v16 h K17) h fun v18 h =>
 GuardW (wantV v14 false) (fun K19 =>
 fieldAddrB False 2 a1 h K19) h fun v20 h =>
 GuardW (wantV v14 false) (fun K21 =>
 loadA False 2 v20 h K21) h fun v22 h =>
 GuardW (wantV v14 false) (fun K23 =>
 binB False Try.prog .eql 27 false false v18 v22 h K23) h fun v24 h =>
 GuardW (wantV v6 true) (fun K25 =>
 pickB False v14 (Value.bool true) v24 h K25) h fun v26 h =>
 pickB False v6 v26 (Value.bool false) h fun v27 h =>
 κ v27 h) := by kernel_rfl

/-- latchstring/automaton.May$1 -/
theorem rs_116 (a0 a1 : Value) (h : Heap) (κ : Value → Heap → Prop) : BodyW Try.prog 116 [a0, a1] h κ = (
 cellsK False (Value.cells a0).toList 30 false fun o0 => newBlock False o0 h fun b1 h =>
 loadA False 4 (ptrTo b1) h fun v2 h =>
 loadA False 4 a1 h fun v3 h =>
 CallW Try.prog 110 [v2, v3] h fun v4 h =>
 κ v4 h) := by kernel_rfl

/-- latchstring/automaton.Codes$1 -/
theorem rs_117 (a0 a1 : Value) (h : Heap) (κ : Value → Heap → Prop) : BodyW Try.prog 117 [a0, a1] h κ = (
 cellsK False (Value.cells a1).toList 82 false fun o0 => newBlock False o0 h fun b1 h =>
 fillB False [(0, 1)] [(Value.int .i64 (1))] (repeatL [(Value.int .i64 (0))] 1) fun cs4 => cellsK False cs4 3 false fun o2 => newBlock False o2 h fun b3 h =>
 κ (sliceTo 1 1 b3) h) := by kernel_rfl

noncomputable def rs_118_0 (b1 : Nat) (a0 : Value) (h : Heap) (κ : Value → Heap → Prop) : Prop :=
 fillB False [(0, 1), (1, 1), (2, 1), (3, 1)] [(Value.int .i64 (2)), (Value.int .i64 (3)), (Value.int .i64 (4)), (Value.int .i64 (5))] (repeatL [(Value.int .i64 (0))] 4) fun cs13 => cellsK False cs13 3 false fun o11 => newBlock False o11 h fun b12 h =>
 fieldAddrB False 1 (ptrTo b1) h fun v14 h =>
 load1 False v14 h fun v15 h =>
 fieldAddrB False 2 (ptrTo b1) h fun v16 h =>
 loadA False 2 v16 h fun v17 h =>
 fieldAddrB False 4 (ptrTo b1) h fun v18 h =>
 load1 False v18 h fun v19 h =>
 CallW Try.prog 61 [a0, v15, v17, v19] h fun v20 h =>
 CondW v20 (
 fillB False [(0, 1)] [(Value.int .i64 (1))] (repeatL [(Value.int .i64 (0))] 1) fun cs23 => cellsK False cs23 3 false fun o21 => newBlock False o21 h fun b22 h =>
 CallW Try.prog 138 [(sliceTo 4 4 b12), (Value.int .i64 (0)), (sliceTo 1 1 b22)] h fun v24 h =>
 κ v24 h) (
 κ (sliceTo 4 4 b12) h)

/-- latchstring/automaton.acquire -/
theorem rs_118 (a0 a1 : Value) (h : Heap) (κ : Value → Heap → Prop) : BodyW Try.prog 118 [a0, a1] h κ = (
 cellsK False (Value.cells a1).toList 82 false fun o0 => newBlock False o0 h fun b1 h =>
 fieldAddrB False 2 (ptrTo b1) h fun v2 h =>
 loadA False 2 v2 h fun v3 h =>
 fieldAddrB False 4 (ptrTo b1) h fun v4 h =>
 load1 False v4 h fun v5 h =>
 CallW Try.prog 108 [v3, v5] h fun v6 h =>
 unB False .not v6 h fun v7 h =>
 CondW v7 (
 fillB False [(0, 1)] [(Value.int .i64 (6))] (repeatL [(Value.int .i64 (0))] 1) fun cs10 => cellsK False cs10 3 false fun o8 => newBlock False o8 h fun b9 h =>
 κ (sliceTo 1 1 b9) h) (
 rs_118_0 b1 a0 h κ)) := by kernel_rfl

/-- latchstring/automaton.release -/
theorem rs_119 (a0 a1 : Value) (h : Heap) (κ : Value → Heap → Prop) : BodyW Try.prog 119 [a0, a1] h κ = (
 cellsK False (Value.cells a1).toList 82 false fun o0 => newBlock False o0 h fun b1 h =>
 fieldAddrB False 1 (ptrTo b1) h fun v2 h =>
 load1 False v2 h fun v3 h =>
 fieldAddrB False 2 (ptrTo b1) h fun v4 h =>
 loadA False 2 v4 h fun v5 h =>
 CallW Try.prog 111 [a0, v3, v5] h fun v6 h =>
 binB False Try.prog .lss 3 true false v6 (Value.int .i64 (0)) h fun v7 h =>
 CondW v7 (
 fillB False [(0, 1)] [(Value.int .i64 (6))] (repeatL [(Value.int .i64 (0))] 1) fun cs10 => cellsK False cs10 3 false fun o8 => newBlock False o8 h fun b9 h =>
 κ (sliceTo 1 1 b9) h) (
 fillB False [(0, 1)] [(Value.int .i64 (1))] (repeatL [(Value.int .i64 (0))] 1) fun cs13 => cellsK False cs13 3 false fun o11 => newBlock False o11 h fun b12 h =>
 κ (sliceTo 1 1 b12) h)) := by kernel_rfl

/-- latchstring/automaton.pass -/
theorem rs_120 (a0 a1 : Value) (h : Heap) (κ : Value → Heap → Prop) : BodyW Try.prog 120 [a0, a1] h κ = (
 cellsK False (Value.cells a1).toList 82 false fun o0 => newBlock False o0 h fun b1 h =>
 loadA False 6 (ptrTo b1) h fun v2 h =>
 CallW Try.prog 119 [a0, v2] h fun v3 h =>
 CallW Try.prog 139 [v3, (Value.func (.func 140) (Array.mk []) (Array.mk []))] h fun v4 h =>
 κ v4 h) := by kernel_rfl

noncomputable def rs_121_0 (a0 : Value) (l5 : List Value) (a1 : Value) (N4 : List Value → Heap → Prop) (v6 : Value) (h : Heap) (κ : Value → Heap → Prop) : Prop :=
 RdK (some a0) h fun v7 h =>
 RdK (some (slot l5 14)) h fun v8 h =>
 RdK (indexAddrS none 4 v7 v8 h fun v _ => some v) h fun v9 h =>
 RdK (loadA none 4 v9 h fun v _ => some v) h fun v10 h =>
 RdK (some a1) h fun v11 h =>
 RdK (some (slot l5 14)) h fun v12 h =>
 RdK (indexAddrS none 4 v11 v12 h fun v _ => some v) h fun v13 h =>
 RdK (loadA none 4 v13 h fun v _ => some v) h fun v14 h =>
 RdK (binB none Try.prog .neq 30 false false v10 v14 h fun v _ => some v) h fun v15 h =>
 CondW v15 (
 κ (Value.bool false) h) (
 binB False Try.prog .add 3 true false (slot l5 14) (Value.int .i64 (1)) h fun v16 h =>
 N4 [v6, (slot l5 14), (slot l5 14), v7, v8, v9, v10, v11, v12, v13, v14, v15, (slot l5 12), v16, v16] h)

/-- slices.Equal[[]latchstring/api.Held,latchstring/api.Held] -/
theorem rs_121 (a0 a1 : Value) (h : Heap) (κ : Value → Heap → Prop) : BodyW Try.prog 121 [a0, a1] h κ = (
 lenSli False a0 h fun v0 h =>
 lenSli False a1 h fun v1 h =>
 binB False Try.prog .neq 3 false false v0 v1 h fun v2 h =>
 CondW v2 (
 κ (Value.bool false) h) (
 lenSli False a0 h fun v3 h =>
 LoopR [undef, undef, undef, undef, undef, undef, undef, undef, undef, undef, undef, undef, (Value.bool false), undef, (Value.int .i64 (0))] h fun l5 h N4 =>
 binB False Try.prog .lss 3 false false (slot l5 14) v3 h fun v6 h =>
 CondW v6 (
 rs_121_0 a0 l5 a1 N4 v6 h κ) (
 κ (Value.bool true) h))) := by kernel_rfl

/-- latchstring/mode.compatible -/
theorem rs_122 (h : Heap) (κ : Value → Heap → Prop) : BodyW Try.prog 122 [] h κ = (
 cellsK False [(Value.int .i64 (0)), (Value.int .i64 (0)), (Value.int .i64 (0)), (Value.int .i64 (0)), (Value.int .i64 (0)), (Value.int .i64 (0)), (Value.int .i64 (0)), (Value.int .i64 (0)), (Value.int .i64 (0)), (Value.int .i64 (0)), (Value.int .i64 (0)), (Value.int .i64 (0)), (Value.int .i64 (0)), (Value.int .i64 (0)), (Value.int .i64 (0)), (Value.int .i64 (0)), (Value.int .i64 (0)), (Value.int .i64 (0)), (Value.int .i64 (0)), (Value.int .i64 (0)), (Value.int .i64 (0)), (Value.int .i64 (0)), (Value.int .i64 (0)), (Value.int .i64 (0)), (Value.int .i64 (0)), (Value.int .i64 (0)), (Value.int .i64 (0)), (Value.int .i64 (0)), (Value.int .i64 (0)), (Value.int .i64 (0)), (Value.int .i64 (0)), (Value.int .i64 (0)), (Value.int .i64 (0)), (Value.int .i64 (0)), (Value.int .i64 (0)), (Value.int .i64 (0)), (Value.int .i64 (0)), (Value.int .i64 (0)), (Value.int .i64 (0)), (Value.int .i64 (0)), (Value.int .i64 (0)), (Value.int .i64 (0)), (Value.int .i64 (0)), (Value.int .i64 (0)), (Value.int .i64 (0)), (Value.int .i64 (0)), (Value.int .i64 (0)), (Value.int .i64 (0)), (Value.int .i64 (0))] 133 false fun o0 => newBlock False o0 h fun b1 h =>
 fillB False [(0, 1), (1, 1), (2, 1), (3, 1), (4, 1), (5, 1), (6, 1)] [(Value.int .i64 (1)), (Value.int .i64 (1)), (Value.int .i64 (1)), (Value.int .i64 (1)), (Value.int .i64 (1)), (Value.int .i64 (1)), (Value.int .i64 (1))] [(Value.int .i64 (0)), (Value.int .i64 (0)), (Value.int .i64 (0)), (Value.int .i64 (0)), (Value.int .i64 (0)), (Value.int .i64 (0)), (Value.int .i64 (0))] fun cs2 =>
 fillB False [(0, 1), (1, 1), (2, 1), (3, 1), (4, 1), (5, 1), (6, 1)] [(Value.int .i64 (1)), (Value.int .i64 (1)), (Value.int .i64 (1)), (Value.int .i64 (1)), (Value.int .i64 (1)), (Value.int .i64 (1)), (Value.int .i64 (0))] [(Value.int .i64 (0)), (Value.int .i64 (0)), (Value.int .i64 (0)), (Value.int .i64 (0)), (Value.int .i64 (0)), (Value.int .i64 (0)), (Value.int .i64 (0))] fun cs3 =>
 fillB False [(0, 1), (1, 1), (2, 1), (3, 1), (4, 1), (5, 1), (6, 1)] [(Value.int .i64 (1)), (Value.int .i64 (1)), (Value.int .i64 (1)), (Value.int .i64 (0)), (Value.int .i64 (0)), (Value.int .i64 (0)), (Value.int .i64 (0))] [(Value.int .i64 (0)), (Value.int .i64 (0)), (Value.int .i64 (0)), (Value.int .i64 (0)), (Value.int .i64 (0)), (Value.int .i64 (0)), (Value.int .i64 (0))] fun cs4 =>
 fillB False [(0, 1), (1, 1), (2, 1), (3, 1), (4, 1), (5, 1), (6, 1)] [(Value.int .i64 (1)), (Value.int .i64 (1)), (Value.int .i64 (0)), (Value.int .i64 (1)), (Value.int .i64 (0)), (Value.int .i64 (1)), (Value.int .i64 (0))] [(Value.int .i64 (0)), (Value.int .i64 (0)), (Value.int .i64 (0)), (Value.int .i64 (0)), (Value.int .i64 (0)), (Value.int .i64 (0)), (Value.int .i64 (0))] fun cs5 =>
 fillB False [(0, 1), (1, 1), (2, 1), (3, 1), (4, 1), (5, 1), (6, 1)] [(Value.int .i64 (1)), (Value.int .i64 (1)), (Value.int .i64 (0)), (Value.int .i64 (0)), (Value.int .i64 (0)), (Value.int .i64 (0)), (Value.int .i64 (0))] [(Value.int .i64 (0)), (Value.int .i64 (0)), (Value.int .i64 (0)), (Value.int .i64 (0)), (Value.int .i64 (0)), (Value.int .i64 (0)), (Value.int .i64 (0))] fun cs6 =>
 fillB False [(0, 1), (1, 1), (2, 1), (3, 1), (4, 1), (5, 1), (6, 1)] [(Value.int .i64 (1)), (Value.int .i64 (1)), (Value.int .i64 (0)), (Value.int .i64 (1)), (Value.int .i64 (0)), (Value.int .i64 (0)), (Value.int .i64 (0))] [(Value.int .i64 (0)), (Value.int .i64 (0)), (Value.int .i64 (0)), (Value.int .i64 (0)), (Value.int .i64 (0)), (Value.int .i64 (0)), (Value.int .i64 (0))] fun cs7 =>
 fillB False [(0, 1), (1, 1), (2, 1), (3, 1), (4, 1), (5, 1), (6, 1)] [(Value.int .i64 (1)), (Value.int .i64 (0)), (Value.int .i64 (0)), (Value.int .i64 (0)), (Value.int .i64 (0)), (Value.int .i64 (0)), (Value.int .i64 (0))] [(Value.int .i64 (0)), (Value.int .i64 (0)), (Value.int .i64 (0)), (Value.int .i64 (0)), (Value.int .i64 (0)), (Value.int .i64 (0)), (Value.int .i64 (0))] fun cs8 =>
 fillB False [(0, 7), (7, 7), (14, 7), (21, 7), (28, 7), (35, 7), (42, 7)] [(Value.agg (Array.mk cs2)), (Value.agg (Array.mk cs3)), (Value.agg (Array.mk cs4)), (Value.agg (Array.mk cs5)), (Value.agg (Array.mk cs6)), (Value.agg (Array.mk cs7)), (Value.agg (Array.mk cs8))] [(Value.int .i64 (0)), (Value.int .i64 (0)), (Value.int .i64 (0)), (Value.int .i64 (0)), (Value.int .i64 (0)), (Value.int .i64 (0)), (Value.int .i64 (0)), (Value.int .i64 (0)), (Value.int .i64 (0)), (Value.int .i64 (0)), (Value.int .i64 (0)), (Value.int .i64 (0)), (Value.int .i64 (0)), (Value.int .i64 (0)), (Value.int .i64 (0)), (Value.int .i64 (0)), (Value.int .i64 (0)), (Value.int .i64 (0)), (Value.int .i64 (0)), (Value.int .i64 (0)), (Value.int .i64 (0)), (Value.int .i64 (0)), (Value.int .i64 (0)), (Value.int .i64 (0)), (Value.int .i64 (0)), (Value.int .i64 (0)), (Value.int .i64 (0)), (Value.int .i64 (0)), (Value.int .i64 (0)), (Value.int .i64 (0)), (Value.int .i64 (0)), (Value.int .i64 (0)), (Value.int .i64 (0)), (Value.int .i64 (0)), (Value.int .i64 (0)), (Value.int .i64 (0)), (Value.int .i64 (0)), (Value.int .i64 (0)), (Value.int .i64 (0)), (Value.int .i64 (0)), (Value.int .i64 (0)), (Value.int .i64 (0)), (Value.int .i64 (0)), (Value.int .i64 (0)), (Value.int .i64 (0)), (Value.int .i64 (0)), (Value.int .i64 (0)), (Value.int .i64 (0)), (Value.int .i64 (0))] fun cs9 =>
 storeV False 49 (ptrTo b1) (Value.agg (Array.mk cs9)) h fun v10 h =>
 loadA False 49 (ptrTo b1) h fun v11 _ => κ v11 h) := by kernel_rfl

/-- (latchstring/mode.pairs).is -/
theorem rs_123 (a0 a1 a2 : Value) (h : Heap) (κ : Value → Heap → Prop) : BodyW Try.prog 123 [a0, a1, a2] h κ = (
 cellsK False (Value.cells a0).toList 133 false fun o0 => newBlock False o0 h fun b1 h =>
 CallW Try.prog 127 [a1] h fun v2 h =>
 GuardW (wantV v2 true) (fun K3 =>
 K3 a2 h) h fun v4 h =>
 GuardW (wantV v2 true) (fun K5 =>
 CallW Try.prog 127 [v4] h K5) h fun v6 h =>
 pickB False v2 v6 (Value.bool false) h fun v7 h =>
 GuardW (wantV v7 true) (fun K8 =>
 K8 a1 h) h fun v9 h =>
 GuardW (wantV v7 true) (fun K10 =>
 K10 a2 h) h fun v11 h =>
 GuardW (wantV v7 true) (fun K12 =>
 indexAddrA False 7 7 (ptrTo b1) v9 h K12) h fun v13 h =>
 GuardW (wantV v7 true) (fun K14 =>
 indexAddrA False 7 1 v13 v11 h K14) h fun v15 h =>
 GuardW (wantV v7 true) (fun K16 =>
 load1 False v15 h K16) h fun v17 h =>
 GuardW (wantV v7 true) (fun K18 =>
 binB False Try.prog .eql 3 true false v17 (Value.int .i64 (1)) h K18) h fun v19 h =>
 pickB False v7 v19 (Value.bool false) h fun v20 h =>
 κ v20 h) := by kernel_rfl

/-- latchstring/mode.covers -/
theorem rs_126 (h : Heap) (κ : Value → Heap → Prop) : BodyW Try.prog 126 [] h κ = (
 cellsK False [(Value.int .i64 (0)), (Value.int .i64 (0)), (Value.int .i64 (0)), (Value.int .i64 (0)), (Value.int .i64 (0)), (Value.int .i64 (0)), (Value.int .i64 (0)), (Value.int .i64 (0)), (Value.int .i64 (0)), (Value.int .i64 (0)), (Value.int .i64 (0)), (Value.int .i64 (0)), (Value.int .i64 (0)), (Value.int .i64 (0)), (Value.int .i64 (0)), (Value.int .i64 (0)), (Value.int .i64 (0)), (Value.int .i64 (0)), (Value.int .i64 (0)), (Value.int .i64 (0)), (Value.int .i64 (0)), (Value.int .i64 (0)), (Value.int .i64 (0)), (Value.int .i64 (0)), (Value.int .i64 (0)), (Value.int .i64 (0)), (Value.int .i64 (0)), (Value.int .i64 (0)), (Value.int .i64 (0)), (Value.int .i64 (0)), (Value.int .i64 (0)), (Value.int .i64 (0)), (Value.int .i64 (0)), (Value.int .i64 (0)), (Value.int .i64 (0)), (Value.int .i64 (0)), (Value.int .i64 (0)), (Value.int .i64 (0)), (Value.int .i64 (0)), (Value.int .i64 (0)), (Value.int .i64 (0)), (Value.int .i64 (0)), (Value.int .i64 (0)), (Value.int .i64 (0)), (Value.int .i64 (0)), (Value.int .i64 (0)), (Value.int .i64 (0)), (Value.int .i64 (0)), (Value.int .i64 (0))] 133 false fun o0 => newBlock False o0 h fun b1 h =>
 fillB False [(0, 1), (1, 1), (2, 1), (3, 1), (4, 1), (5, 1), (6, 1)] [(Value.int .i64 (1)), (Value.int .i64 (0)), (Value.int .i64 (0)), (Value.int .i64 (0)), (Value.int .i64 (0)), (Value.int .i64 (0)), (Value.int .i64 (0))] [(Value.int .i64 (0)), (Value.int .i64 (0)), (Value.int .i64 (0)), (Value.int .i64 (0)), (Value.int .i64 (0)), (Value.int .i64 (0)), (Value.int .i64 (0))] fun cs2 =>
 fillB False [(0, 1), (1, 1), (2, 1), (3, 1), (4, 1), (5, 1), (6, 1)] [(Value.int .i64 (1)), (Value.int .i64 (1)), (Value.int .i64 (0)), (Value.int .i64 (0)), (Value.int .i64 (0)), (Value.int .i64 (0)), (Value.int .i64 (0))] [(Value.int .i64 (0)), (Value.int .i64 (0)), (Value.int .i64 (0)), (Value.int .i64 (0)), (Value.int .i64 (0)), (Value.int .i64 (0)), (Value.int .i64 (0))] fun cs3 =>
 fillB False [(0, 1), (1, 1), (2, 1), (3, 1), (4, 1), (5, 1), (6, 1)] [(Value.int .i64 (1)), (Value.int .i64 (1)), (Value.int .i64 (1)), (Value.int .i64 (0)), (Value.int .i64 (0)), (Value.int .i64 (0)), (Value.int .i64 (0))] [(Value.int .i64 (0)), (Value.int .i64 (0)), (Value.int .i64 (0)), (Value.int .i64 (0)), (Value.int .i64 (0)), (Value.int .i64 (0)), (Value.int .i64 (0))] fun cs4 =>
 fillB False [(0, 1), (1, 1), (2, 1), (3, 1), (4, 1), (5, 1), (6, 1)] [(Value.int .i64 (1)), (Value.int .i64 (1)), (Value.int .i64 (0)), (Value.int .i64 (1)), (Value.int .i64 (0)), (Value.int .i64 (0)), (Value.int .i64 (0))] [(Value.int .i64 (0)), (Value.int .i64 (0)), (Value.int .i64 (0)), (Value.int .i64 (0)), (Value.int .i64 (0)), (Value.int .i64 (0)), (Value.int .i64 (0))] fun cs5 =>
 fillB False [(0, 1), (1, 1), (2, 1), (3, 1), (4, 1), (5, 1), (6, 1)] [(Value.int .i64 (1)), (Value.int .i64 (1)), (Value.int .i64 (1)), (Value.int .i64 (1)), (Value.int .i64 (1)), (Value.int .i64 (0)), (Value.int .i64 (0))] [(Value.int .i64 (0)), (Value.int .i64 (0)), (Value.int .i64 (0)), (Value.int .i64 (0)), (Value.int .i64 (0)), (Value.int .i64 (0)), (Value.int .i64 (0))] fun cs6 =>
 fillB False [(0, 1), (1, 1), (2, 1), (3, 1), (4, 1), (5, 1), (6, 1)] [(Value.int .i64 (1)), (Value.int .i64 (1)), (Value.int .i64 (0)), (Value.int .i64 (1)), (Value.int .i64 (0)), (Value.int .i64 (1)), (Value.int .i64 (0))] [(Value.int .i64 (0)), (Value.int .i64 (0)), (Value.int .i64 (0)), (Value.int .i64 (0)), (Value.int .i64 (0)), (Value.int .i64 (0)), (Value.int .i64 (0))] fun cs7 =>
 fillB False [(0, 1), (1, 1), (2, 1), (3, 1), (4, 1), (5, 1), (6, 1)] [(Value.int .i64 (1)), (Value.int .i64 (1)), (Value.int .i64 (1)), (Value.int .i64 (1)), (Value.int .i64 (1)), (Value.int .i64 (1)), (Value.int .i64 (1))] [(Value.int .i64 (0)), (Value.int .i64 (0)), (Value.int .i64 (0)), (Value.int .i64 (0)), (Value.int .i64 (0)), (Value.int .i64 (0)), (Value.int .i64 (0))] fun cs8 =>
 fillB False [(0, 7), (7, 7), (14, 7), (21, 7), (28, 7), (35, 7), (42, 7)] [(Value.agg (Array.mk cs2)), (Value.agg (Array.mk cs3)), (Value.agg (Array.mk cs4)), (Value.agg (Array.mk cs5)), (Value.agg (Array.mk cs6)), (Value.agg (Array.mk cs7)), (Value.agg (Array.mk cs8))] [(Value.int .i64 (0)), (Value.int .i64 (0)), (Value.int .i64 (0)), (Value.int .i64 (0)), (Value.int .i64 (0)), (Value.int .i64 (0)), (Value.int .i64 (0)), (Value.int .i64 (0)), (Value.int .i64 (0)), (Value.int .i64 (0)), (Value.int .i64 (0)), (Value.int .i64 (0)), (Value.int .i64 (0)), (Value.int .i64 (0)), (Value.int .i64 (0)), (Value.int .i64 (0)), (Value.int .i64 (0)), (Value.int .i64 (0)), (Value.int .i64 (0)), (Value.int .i64 (0)), (Value.int .i64 (0)), (Value.int .i64 (0)), (Value.int .i64 (0)), (Value.int .i64 (0)), (Value.int .i64 (0)), (Value.int .i64 (0)), (Value.int .i64 (0)), (Value.int .i64 (0)), (Value.int .i64 (0)), (Value.int .i64 (0)), (Value.int .i64 (0)), (Value.int .i64 (0)), (Value.int .i64 (0)), (Value.int .i64 (0)), (Value.int .i64 (0)), (Value.int .i64 (0)), (Value.int .i64 (0)), (Value.int .i64 (0)), (Value.int .i64 (0)), (Value.int .i64 (0)), (Value.int .i64 (0)), (Value.int .i64 (0)), (Value.int .i64 (0)), (Value.int .i64 (0)), (Value.int .i64 (0)), (Value.int .i64 (0)), (Value.int .i64 (0)), (Value.int .i64 (0)), (Value.int .i64 (0))] fun cs9 =>
 storeV False 49 (ptrTo b1) (Value.agg (Array.mk cs9)) h fun v10 h =>
 loadA False 49 (ptrTo b1) h fun v11 _ => κ v11 h) := by kernel_rfl

/-- latchstring/mode.Known -/
theorem rs_127 (a0 : Value) (h : Heap) (κ : Value → Heap → Prop) : BodyW Try.prog 127 [a0] h κ = (
 binB False Try.prog .geq 28 true false a0 (Value.int .i64 (0)) h fun v0 h =>
 GuardW (wantV v0 true) (fun K1 =>
 K1 a0 h) h fun v2 h =>
 GuardW (wantV v0 true) (fun K3 =>
 binB False Try.prog .leq 28 true false v2 (Value.int .i64 (6)) h K3) h fun v4 h =>
 pickB False v0 v4 (Value.bool false) h fun v5 h =>
 κ v5 h) := by kernel_rfl

-- 131 slices.overlaps[latchstring/api.Held]: no body
/-- slices.rotateRight[latchstring/api.Held] -/
theorem rs_132 (a0 a1 : Value) (h : Heap) (κ : Value → Heap → Prop) : BodyW Try.prog 132 [a0, a1] h κ = (
 lenSli False a0 h fun v0 h =>
 binB False Try.prog .sub 3 false false v0 a1 h fun v1 h =>
 CallW Try.prog 142 [a0, v1] h fun v2 h =>
 κ (Value.tuple (Array.mk [])) h) := by kernel_rfl

noncomputable def rs_133_0 (a0 : Value) (l2 : List Value) (a1 : Value) (N1 : List Value → Heap → Prop) (v3 : Value) (h : Heap) (κ : Value → Heap → Prop) : Prop :=
 indexAddrS False 2 a0 (slot l2 12) h fun v4 h =>
 loadA False 2 v4 h fun v5 h =>
 CallV Try.prog a1 [v5] h fun v6 h =>
 CondW v6 (
 κ (slot l2 12) h) (
 binB False Try.prog .add 3 true false (slot l2 12) (Value.int .i64 (1)) h fun v7 h =>
 N1 [v3, (slot l2 12), (slot l2 12), a1, a0, (slot l2 12), v4, v5, v6, (slot l2 9), (slot l2 10), v7, v7] h)

/-- slices.IndexFunc[[]latchstring/api.Name,latchstring/api.Name] -/
theorem rs_133 (a0 a1 : Value) (h : Heap) (κ : Value → Heap → Prop) : BodyW Try.prog 133 [a0, a1] h κ = (
 lenSli False a0 h fun v0 h =>
 LoopR [undef, undef, undef, undef, undef, undef, undef, undef, undef, undef, (Value.int .i64 (0)), undef, (Value.int .i64 (0))] h fun l2 h N1 =>
 binB False Try.prog .lss 3 false false (slot l2 12) v0 h fun v3 h =>
 CondW v3 (
 rs_133_0 a0 l2 a1 N1 v3 h κ) (
 κ (Value.int .i64 (-1)) h)) := by kernel_rfl

noncomputable def rs_134_0 (l11 : List Value) (l7 : List Value) (a1 : Value) (a0 : Value) (a2 : Value) (N6 : List Value → Heap → Prop) (v8 : Value) (v9 : Value) (v12 : Value) (h : Heap) : Prop :=
 JoinR (fun N17 =>
 binB False Try.prog .add 3 false false (slot l11 12) (slot l7 38) h fun v19 h =>
 binB False Try.prog .lss 3 false false v19 a1 h fun v20 h =>
 CondW v20 (
 CallW Try.prog 144 [a0, (slot l11 12), v19, a1, a2] h fun v21 h =>
 N17 [(slot l11 12), (slot l7 38), v19, v19, v19, a1, v20, a0, (slot l11 12), v19, a1, a2, v21] h) (
 N17 [(slot l11 12), (slot l7 38), v19, v19, v19, a1, v20, (slot l7 30), (slot l7 31), (slot l7 32), (slot l7 33), (slot l7 34), (slot l7 35)] h)) fun l18 h =>
 binB False Try.prog .mul 3 true false (slot l7 38) (Value.int .i64 (2)) h fun v22 h =>
 N6 [(slot l7 38), a1, v8, (slot l7 38), v9, (slot l11 17), a1, v12, (slot l11 3), (slot l11 4), (slot l11 5), (slot l11 6), (slot l11 7), (slot l11 8), (slot l11 9), (slot l11 10), (slot l11 11), (slot l11 12), (slot l11 13), (slot l11 14), (slot l11 15), (slot l11 16), (slot l11 17), (slot l18 0), (slot l18 1), (slot l18 2), (slot l18 3), (slot l18 4), (slot l18 5), (slot l18 6), (slot l18 7), (slot l18 8), (slot l18 9), (slot l18 10), (slot l18 11), (slot l18 12), (slot l7 38), v22, v22] h

noncomputable def rs_134_1 (l11 : List Value) (a1 : Value) (l7 : List Value) (a0 : Value) (a2 : Value) (N10 : List Value → Heap → Prop) (N6 : List Value → Heap → Prop) (v8 : Value) (v9 : Value) (h : Heap) : Prop :=
 binB False Try.prog .leq 3 false false (slot l11 17) a1 h fun v12 h =>
 CondW v12 (
 binB False Try.prog .add 3 false false (slot l11 12) (slot l7 38) h fun v13 h =>
 CallW Try.prog 144 [a0, (slot l11 12), v13, (slot l11 17), a2] h fun v14 h =>
 binB False Try.prog .mul 3 true false (Value.int .i64 (2)) (slot l7 38) h fun v15 h =>
 binB False Try.prog .add 3 false false (slot l11 17) v15 h fun v16 h =>
 N10 [(slot l11 17), a1, v12, a0, (slot l11 12), (slot l11 12), (slot l7 38), v13, (slot l11 17), a2, v14, (slot l11 17), (slot l11 17), (slot l11 17), (slot l7 38), v15, v16, v16] h) (
 rs_134_0 l11 l7 a1 a0 a2 N6 v8 v9 v12 h)

noncomputable def rs_134_2 (a0 : Value) (l1 : List Value) (a1 : Value) (a2 : Value) (h : Heap) (κ : Value → Heap → Prop) : Prop :=
 CallW Try.prog 143 [a0, (slot l1 9), a1, a2] h fun v5 h =>
 LoopR [undef, undef, undef, undef, undef, undef, undef, undef, undef, undef, undef, undef, undef, undef, undef, undef, undef, (slot l1 9), undef, undef, undef, undef, (slot l1 13), undef, undef, undef, undef, undef, undef, undef, undef, undef, undef, undef, undef, undef, undef, undef, (Value.int .i64 (20))] h fun l7 h N6 =>
 binB False Try.prog .lss 3 false false (slot l7 38) a1 h fun v8 h =>
 CondW v8 (
 binB False Try.prog .mul 3 true false (Value.int .i64 (2)) (slot l7 38) h fun v9 h =>
 LoopR [(slot l7 5), (slot l7 6), (slot l7 7), (slot l7 8), (slot l7 9), (slot l7 10), (slot l7 11), (slot l7 12), (slot l7 13), (slot l7 14), (slot l7 15), (slot l7 16), (Value.int .i64 (0)), (slot l7 18), (slot l7 19), (slot l7 20), (slot l7 21), v9] h fun l11 h N10 =>
 rs_134_1 l11 a1 l7 a0 a2 N10 N6 v8 v9 h) (
 κ (Value.tuple (Array.mk [])) h)

/-- slices.stableCmpFunc[latchstring/api.Held] -/
theorem rs_134 (a0 a1 a2 : Value) (h : Heap) (κ : Value → Heap → Prop) : BodyW Try.prog 134 [a0, a1, a2] h κ = (
 LoopR [undef, undef, undef, undef, undef, undef, undef, undef, undef, (Value.int .i64 (0)), undef, undef, undef, (Value.int .i64 (20))] h fun l1 h N0 =>
 binB False Try.prog .leq 3 false false (slot l1 13) a1 h fun v2 h =>
 CondW v2 (
 CallW Try.prog 143 [a0, (slot l1 9), (slot l1 13), a2] h fun v3 h =>
 binB False Try.prog .add 3 false false (slot l1 13) (Value.int .i64 (20)) h fun v4 h =>
 N0 [(slot l1 13), a1, v2, a0, (slot l1 9), (slot l1 13), a2, v3, (slot l1 13), (slot l1 13), (slot l1 13), (Value.int .i64 (20)), v4, v4] h) (
 rs_134_2 a0 l1 a1 a2 h κ)) := by kernel_rfl

noncomputable def rs_135_0 (b1 : Nat) (a0 : Value) (l4 : List Value) (N3 : List Value → Heap → Prop) (v5 : Value) (h : Heap) (κ : Value → Heap → Prop) : Prop :=
 RdK (loadA none 2 (ptrTo b1) h fun v _ => some v) h fun v6 h =>
 RdK (some a0) h fun v7 h =>
 RdK (some (slot l4 12)) h fun v8 h =>
 RdK (indexAddrS none 2 v7 v8 h fun v _ => some v) h fun v9 h =>
 RdK (loadA none 2 v9 h fun v _ => some v) h fun v10 h =>
 RdK (binB none Try.prog .eql 27 false false v6 v10 h fun v _ => some v) h fun v11 h =>
 CondW v11 (
 κ (slot l4 12) h) (
 binB False Try.prog .add 3 true false (slot l4 12) (Value.int .i64 (1)) h fun v12 h =>
 N3 [v5, (slot l4 12), (slot l4 12), v6, v7, v8, v9, v10, v11, (slot l4 9), (slot l4 10), v12, v12] h)

/-- slices.Index[[]latchstring/api.Name,latchstring/api.Name] -/
theorem rs_135 (a0 a1 : Value) (h : Heap) (κ : Value → Heap → Prop) : BodyW Try.prog 135 [a0, a1] h κ = (
 cellsK False (Value.cells a1).toList 27 false fun o0 => newBlock False o0 h fun b1 h =>
 lenSli False a0 h fun v2 h =>
 LoopR [undef, undef, undef, undef, undef, undef, undef, undef, undef, undef, (Value.int .i64 (0)), undef, (Value.int .i64 (0))] h fun l4 h N3 =>
 binB False Try.prog .lss 3 false false (slot l4 12) v2 h fun v5 h =>
 CondW v5 (
 rs_135_0 b1 a0 l4 N3 v5 h κ) (
 κ (Value.int .i64 (-1)) h)) := by kernel_rfl

/-- latchstring/automaton.place$1 -/
theorem rs_136 (a0 a1 a2 : Value) (h : Heap) (κ : Value → Heap → Prop) : BodyW Try.prog 136 [a0, a1, a2] h κ = (
 cellsK False (Value.cells a0).toList 30 false fun o0 => newBlock False o0 h fun b1 h =>
 fieldAddrB False 0 (ptrTo b1) h fun v2 h =>
 load1 False v2 h fun v3 h =>
 load1 False a1 h fun v4 h =>
 binB False Try.prog .eql 3 false false v3 v4 h fun v5 h =>
 GuardW (wantV v5 true) (fun K6 =>
 fieldAddrB False 1 (ptrTo b1) h K6) h fun v7 h =>
 GuardW (wantV v5 true) (fun K8 =>
 loadA False 2 v7 h K8) h fun v9 h =>
 GuardW (wantV v5 true) (fun K10 =>
 loadA False 2 a2 h K10) h fun v11 h =>
 GuardW (wantV v5 true) (fun K12 =>
 binB False Try.prog .eql 27 false false v9 v11 h K12) h fun v13 h =>
 pickB False v5 v13 (Value.bool false) h fun v14 h =>
 κ v14 h) := by kernel_rfl

noncomputable def rs_137_0 (a0 : Value) (l2 : List Value) (a1 : Value) (N1 : List Value → Heap → Prop) (v3 : Value) (h : Heap) (κ : Value → Heap → Prop) : Prop :=
 indexAddrS False 1 a0 (slot l2 12) h fun v4 h =>
 load1 False v4 h fun v5 h =>
 binB False Try.prog .eql 3 false false a1 v5 h fun v6 h =>
 CondW v6 (
 κ (slot l2 12) h) (
 binB False Try.prog .add 3 true false (slot l2 12) (Value.int .i64 (1)) h fun v7 h =>
 N1 [v3, (slot l2 12), (slot l2 12), a1, a0, (slot l2 12), v4, v5, v6, (slot l2 9), (slot l2 10), v7, v7] h)

/-- slices.Index[[]int,int] -/
theorem rs_137 (a0 a1 : Value) (h : Heap) (κ : Value → Heap → Prop) : BodyW Try.prog 137 [a0, a1] h κ = (
 lenSli False a0 h fun v0 h =>
 LoopR [undef, undef, undef, undef, undef, undef, undef, undef, undef, undef, (Value.int .i64 (0)), undef, (Value.int .i64 (0))] h fun l2 h N1 =>
 binB False Try.prog .lss 3 false false (slot l2 12) v0 h fun v3 h =>
 CondW v3 (
 rs_137_0 a0 l2 a1 N1 v3 h κ) (
 κ (Value.int .i64 (-1)) h)) := by kernel_rfl

-- 138 slices.Insert[[]int,int]: UNSUPPORTED builtin Go.Builtin.cap
noncomputable def rs_139_0 (a0 : Value) (l4 : List Value) (a1 : Value) (N7 : List Value → Heap → Prop) (h : Heap) : Prop :=
 indexAddrS False 1 a0 (slot l4 22) h fun v9 h =>
 load1 False v9 h fun v10 h =>
 CallV Try.prog a1 [v10] h fun v11 h =>
 unB False .not v11 h fun v12 h =>
 CondW v12 (
 indexAddrS False 1 a0 (slot l4 19) h fun v13 h =>
 storeV False 1 v13 v10 h fun v14 h =>
 binB False Try.prog .add 3 true false (slot l4 19) (Value.int .i64 (1)) h fun v15 h =>
 N7 [a0, (slot l4 22), v9, v10, v10, a1, v10, v11, v12, a0, (slot l4 19), v10, v13, (slot l4 19), v15, v15] h) (
 N7 [a0, (slot l4 22), v9, v10, v10, a1, v10, v11, v12, (slot l4 13), (slot l4 14), (slot l4 15), (slot l4 16), (slot l4 17), (slot l4 18), (slot l4 19)] h)

noncomputable def rs_139_1 (a0 : Value) (l4 : List Value) (a1 : Value) (N3 : List Value → Heap → Prop) (h : Heap) (κ : Value → Heap → Prop) : Prop :=
 lenSli False a0 h fun v5 h =>
 binB False Try.prog .lss 3 false false (slot l4 22) v5 h fun v6 h =>
 CondW v6 (
 JoinR (fun N7 =>
 rs_139_0 a0 l4 a1 N7 h) fun l8 h =>
 binB False Try.prog .add 3 true false (slot l4 22) (Value.int .i64 (1)) h fun v16 h =>
 N3 [(slot l4 22), a0, v5, v6, (slot l8 0), (slot l8 1), (slot l8 2), (slot l8 3), (slot l8 4), (slot l8 5), (slot l8 6), (slot l8 7), (slot l8 8), (slot l8 9), (slot l8 10), (slot l8 11), (slot l8 12), (slot l8 13), (slot l8 14), (slot l8 15), (slot l4 22), v16, v16] h) (
 sliceB False 3 1 a0 (some (slot l4 19)) none none h fun v17 h =>
 clearB False [(Value.int .i64 (0))] v17 h fun v18 h =>
 sliceB False 3 1 a0 none (some (slot l4 19)) none h fun v19 h =>
 κ v19 h)

/-- slices.DeleteFunc[[]int,int] -/
theorem rs_139 (a0 a1 : Value) (h : Heap) (κ : Value → Heap → Prop) : BodyW Try.prog 139 [a0, a1] h κ = (
 CallW Try.prog 147 [a0, a1] h fun v0 h =>
 binB False Try.prog .eql 3 true false v0 (Value.int .i64 (-1)) h fun v1 h =>
 CondW v1 (
 κ a0 h) (
 binB False Try.prog .add 3 true false v0 (Value.int .i64 (1)) h fun v2 h =>
 LoopR [undef, undef, undef, undef, undef, undef, undef, undef, undef, undef, undef, undef, undef, undef, undef, undef, undef, undef, undef, v0, undef, undef, v2] h fun l4 h N3 =>
 rs_139_1 a0 l4 a1 N3 h κ)) := by kernel_rfl

/-- latchstring/automaton.pass$1 -/
theorem rs_140 (a0 : Value) (h : Heap) (κ : Value → Heap → Prop) : BodyW Try.prog 140 [a0] h κ = (
 binB False Try.prog .eql 3 true false a0 (Value.int .i64 (6)) h fun v0 h =>
 κ v0 h) := by kernel_rfl

/-- slices.rotateLeft[latchstring/api.Held] -/
theorem rs_142 (a0 a1 : Value) (h : Heap) (κ : Value → Heap → Prop) : BodyW Try.prog 142 [a0, a1] h κ = (
 sliceB False 30 4 a0 none (some a1) none h fun v0 h =>
 CallW Try.prog 148 [v0] h fun v1 h =>
 sliceB False 30 4 a0 (some a1) none none h fun v2 h =>
 CallW Try.prog 148 [v2] h fun v3 h =>
 CallW Try.prog 148 [a0] h fun v4 h =>
 κ (Value.tuple (Array.mk [])) h) := by kernel_rfl

noncomputable def rs_143_0 (a0 : Value) (l5 : List Value) (N4 : List Value → Heap → Prop) (v6 : Value) (v7 : Value) (v8 : Value) (v9 : Value) (v11 : Value) (v13 : Value) (v15 : Value) (v17 : Value) (v19 : Value) (v21 : Value) (v23 : Value) (v25 : Value) (v27 : Value) (v29 : Value) (v31 : Value) (v33 : Value) (v34 : Value) (h : Heap) : Prop :=
 RdK (some a0) h fun v35 h =>
 RdK (some (slot l5 35)) h fun v36 h =>
 RdK (some a0) h fun v37 h =>
 RdK (some (slot l5 35)) h fun v38 h =>
 RdK (binB none Try.prog .sub 3 true false v38 (Value.int .i64 (1)) h fun v _ => some v) h fun v39 h =>
 RdK (some a0) h fun v40 h =>
 RdK (some (slot l5 35)) h fun v41 h =>
 RdK (binB none Try.prog .sub 3 true false v41 (Value.int .i64 (1)) h fun v _ => some v) h fun v42 h =>
 RdK (indexAddrS none 4 v40 v42 h fun v _ => some v) h fun v43 h =>
 RdK (loadA none 4 v43 h fun v _ => some v) h fun v44 h =>
 RdK (some a0) h fun v45 h =>
 RdK (some (slot l5 35)) h fun v46 h =>
 RdK (indexAddrS none 4 v45 v46 h fun v _ => some v) h fun v47 h =>
 RdK (loadA none 4 v47 h fun v _ => some v) h fun v48 h =>
 RdK (indexAddrS none 4 v35 v36 h fun v _ => some v) h fun v49 h =>
 storeV False 4 v49 v44 h fun v50 h =>
 SameK ((reV (some a0) v37) && ((reV (some (slot l5 35)) v38) && ((reV (binB none Try.prog .sub 3 true false v38 (Value.int .i64 (1)) h fun v _ => some v) v39) && true))) (RdK (indexAddrS none 4 v37 v39 h fun v _ => some v) h fun v51 h =>
 storeV False 4 v51 v48 h fun v52 h =>
 binB False Try.prog .sub 3 true false (slot l5 35) (Value.int .i64 (1)) h fun v53 h =>
 N4 [v6, v7, v8, v9, v11, v13, v15, v17, v19, v21, v23, v25, v27, v29, v31, v33, v34, v35, v36, v37, v38, v39, v40, v41, v42, v43, v44, v45, v46, v47, v48, v49, v51, (slot l5 35), v53, v53] h)

noncomputable def rs_143_1 (l5 : List Value) (a1 : Value) (a3 : Value) (a0 : Value) (N4 : List Value → Heap → Prop) (l2 : List Value) (N1 : List Value → Heap → Prop) (a2 : Value) (v3 : Value) (h : Heap) : Prop :=
 RdK (some (slot l5 35)) h fun v6 h =>
 RdK (some a1) h fun v7 h =>
 RdK (binB none Try.prog .gtr 3 false false v6 v7 h fun v _ => some v) h fun v8 h =>
 RdK (some v8) h fun v9 h =>
 GuardW (wantV v9 true) (fun K10 =>
 RdK (some a3) h K10) h fun v11 h =>
 GuardW (wantV v9 true) (fun K12 =>
 RdK (some a0) h K12) h fun v13 h =>
 GuardW (wantV v9 true) (fun K14 =>
 RdK (some (slot l5 35)) h K14) h fun v15 h =>
 GuardW (wantV v9 true) (fun K16 =>
 RdK (indexAddrS none 4 v13 v15 h fun v _ => some v) h K16) h fun v17 h =>
 GuardW (wantV v9 true) (fun K18 =>
 RdK (loadA none 4 v17 h fun v _ => some v) h K18) h fun v19 h =>
 GuardW (wantV v9 true) (fun K20 =>
 RdK (some a0) h K20) h fun v21 h =>
 GuardW (wantV v9 true) (fun K22 =>
 RdK (some (slot l5 35)) h K22) h fun v23 h =>
 GuardW (wantV v9 true) (fun K24 =>
 RdK (binB none Try.prog .sub 3 true false v23 (Value.int .i64 (1)) h fun v _ => some v) h K24) h fun v25 h =>
 GuardW (wantV v9 true) (fun K26 =>
 RdK (indexAddrS none 4 v21 v25 h fun v _ => some v) h K26) h fun v27 h =>
 GuardW (wantV v9 true) (fun K28 =>
 RdK (loadA none 4 v27 h fun v _ => some v) h K28) h fun v29 h =>
 GuardW (wantV v9 true) (fun K30 =>
 CallV Try.prog v11 [v19, v29] h K30) h fun v31 h =>
 GuardW (wantV v9 true) (fun K32 =>
 RdK (binB none Try.prog .lss 3 true false v31 (Value.int .i64 (0)) h fun v _ => some v) h K32) h fun v33 h =>
 RdK (pickB none v9 v33 (Value.bool false) h fun v _ => some v) h fun v34 h =>
 CondW v34 (
 rs_143_0 a0 l5 N4 v6 v7 v8 v9 v11 v13 v15 v17 v19 v21 v23 v25 v27 v29 v31 v33 v34 h) (
 binB False Try.prog .add 3 true false (slot l2 42) (Value.int .i64 (1)) h fun v54 h =>
 N1 [(slot l2 42), a2, v3, (slot l2 42), v6, v7, v8, v9, v11, v13, v15, v17, v19, v21, v23, v25, v27, v29, v31, v33, v34, (slot l5 17), (slot l5 18), (slot l5 19), (slot l5 20), (slot l5 21), (slot l5 22), (slot l5 23), (slot l5 24), (slot l5 25), (slot l5 26), (slot l5 27), (slot l5 28), (slot l5 29), (slot l5 30), (slot l5 31), (slot l5 32), (slot l5 33), (slot l5 34), (slot l5 35), (slot l2 42), v54, v54] h)

/-- slices.insertionSortCmpFunc[latchstring/api.Held] -/
theorem rs_143 (a0 a1 a2 a3 : Value) (h : Heap) (κ : Value → Heap → Prop) : BodyW Try.prog 143 [a0, a1, a2, a3] h κ = (
 binB False Try.prog .add 3 true false a1 (Value.int .i64 (1)) h fun v0 h =>
 LoopR [undef, undef, undef, undef, undef, undef, undef, undef, undef, undef, undef, undef, undef, undef, undef, undef, undef, undef, undef, undef, undef, undef, undef, undef, undef, undef, undef, undef, undef, undef, undef, undef, undef, undef, undef, undef, undef, undef, undef, undef, undef, undef, v0] h fun l2 h N1 =>
 binB False Try.prog .lss 3 false false (slot l2 42) a2 h fun v3 h =>
 CondW v3 (
 LoopR [(slot l2 4), (slot l2 5), (slot l2 6), (slot l2 7), (slot l2 8), (slot l2 9), (slot l2 10), (slot l2 11), (slot l2 12), (slot l2 13), (slot l2 14), (slot l2 15), (slot l2 16), (slot l2 17), (slot l2 18), (slot l2 19), (slot l2 20), (slot l2 21), (slot l2 22), (slot l2 23), (slot l2 24), (slot l2 25), (slot l2 26), (slot l2 27), (slot l2 28), (slot l2 29), (slot l2 30), (slot l2 31), (slot l2 32), (slot l2 33), (slot l2 34), (slot l2 35), (slot l2 36), (slot l2 37), (slot l2 38), (slot l2 42)] h fun l5 h N4 =>
 rs_143_1 l5 a1 a3 a0 N4 l2 N1 a2 v3 h) (
 κ (Value.tuple (Array.mk [])) h)) := by kernel_rfl

noncomputable def rs_144_0 (a0 : Value) (l22 : List Value) (N21 : List Value → Heap → Prop) (l3 : List Value) (v23 : Value) (v24 : Value) (h : Heap) : Prop :=
 RdK (some a0) h fun v25 h =>
 RdK (some (slot l22 22)) h fun v26 h =>
 RdK (some a0) h fun v27 h =>
 RdK (some (slot l22 22)) h fun v28 h =>
 RdK (binB none Try.prog .add 3 true false v28 (Value.int .i64 (1)) h fun v _ => some v) h fun v29 h =>
 RdK (some a0) h fun v30 h =>
 RdK (some (slot l22 22)) h fun v31 h =>
 RdK (binB none Try.prog .add 3 true false v31 (Value.int .i64 (1)) h fun v _ => some v) h fun v32 h =>
 RdK (indexAddrS none 4 v30 v32 h fun v _ => some v) h fun v33 h =>
 RdK (loadA none 4 v33 h fun v _ => some v) h fun v34 h =>
 RdK (some a0) h fun v35 h =>
 RdK (some (slot l22 22)) h fun v36 h =>
 RdK (indexAddrS none 4 v35 v36 h fun v _ => some v) h fun v37 h =>
 RdK (loadA none 4 v37 h fun v _ => some v) h fun v38 h =>
 RdK (indexAddrS none 4 v25 v26 h fun v _ => some v) h fun v39 h =>
 storeV False 4 v39 v34 h fun v40 h =>
 SameK ((reV (some a0) v27) && ((reV (some (slot l22 22)) v28) && ((reV (binB none Try.prog .add 3 true false v28 (Value.int .i64 (1)) h fun v _ => some v) v29) && true))) (RdK (indexAddrS none 4 v27 v29 h fun v _ => some v) h fun v41 h =>
 storeV False 4 v41 v38 h fun v42 h =>
 binB False Try.prog .add 3 true false (slot l22 22) (Value.int .i64 (1)) h fun v43 h =>
 N21 [(slot l22 22), (slot l3 23), v23, v24, v25, v26, v27, v28, v29, v30, v31, v32, v33, v34, v35, v36, v37, v38, v39, v41, (slot l22 22), v43, v43] h)

noncomputable def rs_144_1 (l3 : List Value) (a4 : Value) (a0 : Value) (a1 : Value) (N2 : List Value → Heap → Prop) (v4 : Value) (h : Heap) : Prop :=
 binB False Try.prog .add 3 false false (slot l3 23) (slot l3 25) h fun v5 h =>
 convI False .u64 v5 h fun v6 h =>
 binB False Try.prog .shr 143 true false v6 (Value.int .u64 (1)) h fun v7 h =>
 convI False .i64 v7 h fun v8 h =>
 RdK (some a4) h fun v9 h =>
 RdK (some a0) h fun v10 h =>
 RdK (some v8) h fun v11 h =>
 RdK (indexAddrS none 4 v10 v11 h fun v _ => some v) h fun v12 h =>
 RdK (loadA none 4 v12 h fun v _ => some v) h fun v13 h =>
 RdK (some a0) h fun v14 h =>
 RdK (some a1) h fun v15 h =>
 RdK (indexAddrS none 4 v14 v15 h fun v _ => some v) h fun v16 h =>
 RdK (loadA none 4 v16 h fun v _ => some v) h fun v17 h =>
 CallV Try.prog v9 [v13, v17] h fun v18 h =>
 RdK (binB none Try.prog .lss 3 true false v18 (Value.int .i64 (0)) h fun v _ => some v) h fun v19 h =>
 CondW v19 (
 binB False Try.prog .add 3 true false v8 (Value.int .i64 (1)) h fun v20 h =>
 N2 [(slot l3 23), (slot l3 25), v4, (slot l3 23), (slot l3 25), v5, v6, v7, v8, v8, v9, v10, v11, v12, v13, v14, v15, v16, v17, v18, v19, v8, v20, v20, (slot l3 24), (slot l3 25)] h) (
 N2 [(slot l3 23), (slot l3 25), v4, (slot l3 23), (slot l3 25), v5, v6, v7, v8, v8, v9, v10, v11, v12, v13, v14, v15, v16, v17, v18, v19, (slot l3 21), (slot l3 22), (slot l3 23), v8, v8] h)

noncomputable def rs_144_2 (l3 : List Value) (a4 : Value) (a0 : Value) (a1 : Value) (N2 : List Value → Heap → Prop) (h : Heap) (κ : Value → Heap → Prop) : Prop :=
 binB False Try.prog .lss 3 false false (slot l3 23) (slot l3 25) h fun v4 h =>
 CondW v4 (
 rs_144_1 l3 a4 a0 a1 N2 v4 h) (
 LoopR [undef, undef, undef, undef, undef, undef, undef, undef, undef, undef, undef, undef, undef, undef, undef, undef, undef, undef, undef, undef, undef, undef, a1] h fun l22 h N21 =>
 binB False Try.prog .sub 3 true false (slot l3 23) (Value.int .i64 (1)) h fun v23 h =>
 binB False Try.prog .lss 3 false false (slot l22 22) v23 h fun v24 h =>
 CondW v24 (
 rs_144_0 a0 l22 N21 l3 v23 v24 h) (
 κ (Value.tuple (Array.mk [])) h))

noncomputable def rs_144_3 (a0 : Value) (l67 : List Value) (N66 : List Value → Heap → Prop) (l47 : List Value) (v68 : Value) (h : Heap) : Prop :=
 RdK (some a0) h fun v69 h =>
 RdK (some (slot l67 21)) h fun v70 h =>
 RdK (some a0) h fun v71 h =>
 RdK (some (slot l67 21)) h fun v72 h =>
 RdK (binB none Try.prog .sub 3 true false v72 (Value.int .i64 (1)) h fun v _ => some v) h fun v73 h =>
 RdK (some a0) h fun v74 h =>
 RdK (some (slot l67 21)) h fun v75 h =>
 RdK (binB none Try.prog .sub 3 true false v75 (Value.int .i64 (1)) h fun v _ => some v) h fun v76 h =>
 RdK (indexAddrS none 4 v74 v76 h fun v _ => some v) h fun v77 h =>
 RdK (loadA none 4 v77 h fun v _ => some v) h fun v78 h =>
 RdK (some a0) h fun v79 h =>
 RdK (some (slot l67 21)) h fun v80 h =>
 RdK (indexAddrS none 4 v79 v80 h fun v _ => some v) h fun v81 h =>
 RdK (loadA none 4 v81 h fun v _ => some v) h fun v82 h =>
 RdK (indexAddrS none 4 v69 v70 h fun v _ => some v) h fun v83 h =>
 storeV False 4 v83 v78 h fun v84 h =>
 SameK ((reV (some a0) v71) && ((reV (some (slot l67 21)) v72) && ((reV (binB none Try.prog .sub 3 true false v72 (Value.int .i64 (1)) h fun v _ => some v) v73) && true))) (RdK (indexAddrS none 4 v71 v73 h fun v _ => some v) h fun v85 h =>
 storeV False 4 v85 v82 h fun v86 h =>
 binB False Try.prog .sub 3 true false (slot l67 21) (Value.int .i64 (1)) h fun v87 h =>
 N66 [(slot l67 21), (slot l47 24), v68, v69, v70, v71, v72, v73, v74, v75, v76, v77, v78, v79, v80, v81, v82, v83, v85, (slot l67 21), v87, v87] h)

noncomputable def rs_144_4 (l47 : List Value) (a4 : Value) (a0 : Value) (a2 : Value) (N46 : List Value → Heap → Prop) (v48 : Value) (h : Heap) : Prop :=
 binB False Try.prog .add 3 false false (slot l47 24) (slot l47 26) h fun v49 h =>
 convI False .u64 v49 h fun v50 h =>
 binB False Try.prog .shr 143 true false v50 (Value.int .u64 (1)) h fun v51 h =>
 convI False .i64 v51 h fun v52 h =>
 RdK (some a4) h fun v53 h =>
 RdK (some a0) h fun v54 h =>
 RdK (some a2) h fun v55 h =>
 RdK (indexAddrS none 4 v54 v55 h fun v _ => some v) h fun v56 h =>
 RdK (loadA none 4 v56 h fun v _ => some v) h fun v57 h =>
 RdK (some a0) h fun v58 h =>
 RdK (some v52) h fun v59 h =>
 RdK (indexAddrS none 4 v58 v59 h fun v _ => some v) h fun v60 h =>
 RdK (loadA none 4 v60 h fun v _ => some v) h fun v61 h =>
 CallV Try.prog v53 [v57, v61] h fun v62 h =>
 RdK (binB none Try.prog .lss 3 true false v62 (Value.int .i64 (0)) h fun v _ => some v) h fun v63 h =>
 RdK (unB none .not v63 h fun v _ => some v) h fun v64 h =>
 CondW v64 (
 binB False Try.prog .add 3 true false v52 (Value.int .i64 (1)) h fun v65 h =>
 N46 [(slot l47 24), (slot l47 26), v48, (slot l47 24), (slot l47 26), v49, v50, v51, v52, v52, v53, v54, v55, v56, v57, v58, v59, v60, v61, v62, v63, v64, v52, v65, v65, (slot l47 25), (slot l47 26)] h) (
 N46 [(slot l47 24), (slot l47 26), v48, (slot l47 24), (slot l47 26), v49, v50, v51, v52, v52, v53, v54, v55, v56, v57, v58, v59, v60, v61, v62, v63, v64, (slot l47 22), (slot l47 23), (slot l47 24), v52, v52] h)

noncomputable def rs_144_5 (l47 : List Value) (a4 : Value) (a0 : Value) (a2 : Value) (N46 : List Value → Heap → Prop) (h : Heap) (κ : Value → Heap → Prop) : Prop :=
 binB False Try.prog .lss 3 false false (slot l47 24) (slot l47 26) h fun v48 h =>
 CondW v48 (
 rs_144_4 l47 a4 a0 a2 N46 v48 h) (
 LoopR [undef, undef, undef, undef, undef, undef, undef, undef, undef, undef, undef, undef, undef, undef, undef, undef, undef, undef, undef, undef, undef, a2] h fun l67 h N66 =>
 binB False Try.prog .gtr 3 false false (slot l67 21) (slot l47 24) h fun v68 h =>
 CondW v68 (
 rs_144_3 a0 l67 N66 l47 v68 h) (
 κ (Value.tuple (Array.mk [])) h))

noncomputable def rs_144_6 (a1 : Value) (l99 : List Value) (v91 : Value) (a0 : Value) (a4 : Value) (N132 : List Value → Heap → Prop) (h : Heap) : Prop :=
 binB False Try.prog .lss 3 false false a1 (slot l99 26) h fun v134 h =>
 GuardW (wantV v134 true) (fun K135 =>
 K135 (slot l99 26) h) h fun v136 h =>
 GuardW (wantV v134 true) (fun K137 =>
 K137 v91 h) h fun v138 h =>
 GuardW (wantV v134 true) (fun K139 =>
 binB False Try.prog .lss 3 false false v136 v138 h K139) h fun v140 h =>
 pickB False v134 v140 (Value.bool false) h fun v141 h =>
 CondW v141 (
 CallW Try.prog 144 [a0, a1, (slot l99 26), v91, a4] h fun v142 h =>
 N132 [a1, (slot l99 26), v134, v134, v136, v138, v140, v141, a0, a1, (slot l99 26), v91, a4, v142] h) (
 N132 [a1, (slot l99 26), v134, v134, v136, v138, v140, v141, undef, undef, undef, undef, undef, undef] h)

noncomputable def rs_144_7 (v91 : Value) (v120 : Value) (a3 : Value) (a0 : Value) (a4 : Value) (h : Heap) (κ : Value → Heap → Prop) : Prop :=
 binB False Try.prog .lss 3 false false v91 v120 h fun v143 h =>
 GuardW (wantV v143 true) (fun K144 =>
 K144 v120 h) h fun v145 h =>
 GuardW (wantV v143 true) (fun K146 =>
 K146 a3 h) h fun v147 h =>
 GuardW (wantV v143 true) (fun K148 =>
 binB False Try.prog .lss 3 false false v145 v147 h K148) h fun v149 h =>
 pickB False v143 v149 (Value.bool false) h fun v150 h =>
 CondW v150 (
 CallW Try.prog 144 [a0, v91, v120, a3, a4] h fun v151 h =>
 κ (Value.tuple (Array.mk [])) h) (
 κ (Value.tuple (Array.mk [])) h)

noncomputable def rs_144_8 (l99 : List Value) (a2 : Value) (v120 : Value) (a0 : Value) (a4 : Value) (N121 : List Value → Heap → Prop) (h : Heap) : Prop :=
 binB False Try.prog .lss 3 false false (slot l99 26) a2 h fun v123 h =>
 GuardW (wantV v123 true) (fun K124 =>
 K124 a2 h) h fun v125 h =>
 GuardW (wantV v123 true) (fun K126 =>
 K126 v120 h) h fun v127 h =>
 GuardW (wantV v123 true) (fun K128 =>
 binB False Try.prog .lss 3 false false v125 v127 h K128) h fun v129 h =>
 pickB False v123 v129 (Value.bool false) h fun v130 h =>
 CondW v130 (
 CallW Try.prog 149 [a0, (slot l99 26), a2, v120, a4] h fun v131 h =>
 N121 [(slot l99 26), a2, v123, v123, v125, v127, v129, v130, a0, (slot l99 26), a2, v120, a4, v131] h) (
 N121 [(slot l99 26), a2, v123, v123, v125, v127, v129, v130, undef, undef, undef, undef, undef, undef] h)

noncomputable def rs_144_9 (l99 : List Value) (a4 : Value) (a0 : Value) (v97 : Value) (N98 : List Value → Heap → Prop) (v100 : Value) (h : Heap) : Prop :=
 binB False Try.prog .add 3 false false (slot l99 26) (slot l99 28) h fun v101 h =>
 convI False .u64 v101 h fun v102 h =>
 binB False Try.prog .shr 143 true false v102 (Value.int .u64 (1)) h fun v103 h =>
 convI False .i64 v103 h fun v104 h =>
 RdK (some a4) h fun v105 h =>
 RdK (some a0) h fun v106 h =>
 RdK (some v97) h fun v107 h =>
 RdK (some v104) h fun v108 h =>
 RdK (binB none Try.prog .sub 3 false false v107 v108 h fun v _ => some v) h fun v109 h =>
 RdK (indexAddrS none 4 v106 v109 h fun v _ => some v) h fun v110 h =>
 RdK (loadA none 4 v110 h fun v _ => some v) h fun v111 h =>
 RdK (some a0) h fun v112 h =>
 RdK (some v104) h fun v113 h =>
 RdK (indexAddrS none 4 v112 v113 h fun v _ => some v) h fun v114 h =>
 RdK (loadA none 4 v114 h fun v _ => some v) h fun v115 h =>
 CallV Try.prog v105 [v111, v115] h fun v116 h =>
 RdK (binB none Try.prog .lss 3 true false v116 (Value.int .i64 (0)) h fun v _ => some v) h fun v117 h =>
 RdK (unB none .not v117 h fun v _ => some v) h fun v118 h =>
 CondW v118 (
 binB False Try.prog .add 3 true false v104 (Value.int .i64 (1)) h fun v119 h =>
 N98 [(slot l99 26), (slot l99 28), v100, (slot l99 26), (slot l99 28), v101, v102, v103, v104, v104, v105, v106, v107, v108, v109, v110, v111, v112, v113, v114, v115, v116, v117, v118, v104, v119, v119, (slot l99 27), (slot l99 28)] h) (
 N98 [(slot l99 26), (slot l99 28), v100, (slot l99 26), (slot l99 28), v101, v102, v103, v104, v104, v105, v106, v107, v108, v109, v110, v111, v112, v113, v114, v115, v116, v117, v118, (slot l99 24), (slot l99 25), (slot l99 26), v104, v104] h)

noncomputable def rs_144_10 (l99 : List Value) (a4 : Value) (a0 : Value) (v97 : Value) (N98 : List Value → Heap → Prop) (v92 : Value) (a2 : Value) (a1 : Value) (v91 : Value) (a3 : Value) (h : Heap) (κ : Value → Heap → Prop) : Prop :=
 binB False Try.prog .lss 3 false false (slot l99 26) (slot l99 28) h fun v100 h =>
 CondW v100 (
 rs_144_9 l99 a4 a0 v97 N98 v100 h) (
 binB False Try.prog .sub 3 false false v92 (slot l99 26) h fun v120 h =>
 JoinR (fun N121 =>
 rs_144_8 l99 a2 v120 a0 a4 N121 h) fun l122 h =>
 JoinR (fun N132 =>
 rs_144_6 a1 l99 v91 a0 a4 N132 h) fun l133 h =>
 rs_144_7 v91 v120 a3 a0 a4 h κ)

noncomputable def rs_144_11 (a1 : Value) (a3 : Value) (a2 : Value) (a4 : Value) (a0 : Value) (h : Heap) (κ : Value → Heap → Prop) : Prop :=
 binB False Try.prog .add 3 false false a1 a3 h fun v88 h =>
 convI False .u64 v88 h fun v89 h =>
 binB False Try.prog .shr 143 true false v89 (Value.int .u64 (1)) h fun v90 h =>
 convI False .i64 v90 h fun v91 h =>
 binB False Try.prog .add 3 false false v91 a2 h fun v92 h =>
 JoinR (fun N93 =>
 binB False Try.prog .gtr 3 false false a2 v91 h fun v95 h =>
 CondW v95 (
 binB False Try.prog .sub 3 false false v92 a3 h fun v96 h =>
 N93 [a2, v91, v95, v92, a3, v96, v91, undef, v96, undef, v91] h) (
 N93 [a2, v91, v95, undef, undef, undef, undef, a1, a1, a2, a2] h)) fun l94 h =>
 binB False Try.prog .sub 3 true false v92 (Value.int .i64 (1)) h fun v97 h =>
 LoopR [undef, undef, undef, undef, undef, undef, undef, undef, undef, undef, undef, undef, undef, undef, undef, undef, undef, undef, undef, undef, undef, undef, undef, undef, undef, undef, (slot l94 8), undef, (slot l94 10)] h fun l99 h N98 =>
 rs_144_10 l99 a4 a0 v97 N98 v92 a2 a1 v91 a3 h κ

/-- slices.symMergeCmpFunc[latchstring/api.Held] -/
theorem rs_144 (a0 a1 a2 a3 a4 : Value) (h : Heap) (κ : Value → Heap → Prop) : BodyW Try.prog 144 [a0, a1, a2, a3, a4] h κ = (
 binB False Try.prog .sub 3 false false a2 a1 h fun v0 h =>
 binB False Try.prog .eql 3 true false v0 (Value.int .i64 (1)) h fun v1 h =>
 CondW v1 (
 LoopR [undef, undef, undef, undef, undef, undef, undef, undef, undef, undef, undef, undef, undef, undef, undef, undef, undef, undef, undef, undef, undef, undef, undef, a2, undef, a3] h fun l3 h N2 =>
 rs_144_2 l3 a4 a0 a1 N2 h κ) (
 binB False Try.prog .sub 3 false false a3 a2 h fun v44 h =>
 binB False Try.prog .eql 3 true false v44 (Value.int .i64 (1)) h fun v45 h =>
 CondW v45 (
 LoopR [undef, undef, undef, undef, undef, undef, undef, undef, undef, undef, undef, undef, undef, undef, undef, undef, undef, undef, undef, undef, undef, undef, undef, undef, a1, undef, a2] h fun l47 h N46 =>
 rs_144_5 l47 a4 a0 a2 N46 h κ) (
 rs_144_11 a1 a3 a2 a4 a0 h κ))) := by kernel_rfl

-- 145 slices.overlaps[int]: no body
/-- slices.rotateRight[int] -/
theorem rs_146 (a0 a1 : Value) (h : Heap) (κ : Value → Heap → Prop) : BodyW Try.prog 146 [a0, a1] h κ = (
 lenSli False a0 h fun v0 h =>
 binB False Try.prog .sub 3 false false v0 a1 h fun v1 h =>
 CallW Try.prog 150 [a0, v1] h fun v2 h =>
 κ (Value.tuple (Array.mk [])) h) := by kernel_rfl

noncomputable def rs_147_0 (a0 : Value) (l2 : List Value) (a1 : Value) (N1 : List Value → Heap → Prop) (v3 : Value) (h : Heap) (κ : Value → Heap → Prop) : Prop :=
 indexAddrS False 1 a0 (slot l2 12) h fun v4 h =>
 load1 False v4 h fun v5 h =>
 CallV Try.prog a1 [v5] h fun v6 h =>
 CondW v6 (
 κ (slot l2 12) h) (
 binB False Try.prog .add 3 true false (slot l2 12) (Value.int .i64 (1)) h fun v7 h =>
 N1 [v3, (slot l2 12), (slot l2 12), a1, a0, (slot l2 12), v4, v5, v6, (slot l2 9), (slot l2 10), v7, v7] h)

/-- slices.IndexFunc[[]int,int] -/
theorem rs_147 (a0 a1 : Value) (h : Heap) (κ : Value → Heap → Prop) : BodyW Try.prog 147 [a0, a1] h κ = (
 lenSli False a0 h fun v0 h =>
 LoopR [undef, undef, undef, undef, undef, undef, undef, undef, undef, undef, (Value.int .i64 (0)), undef, (Value.int .i64 (0))] h fun l2 h N1 =>
 binB False Try.prog .lss 3 false false (slot l2 12) v0 h fun v3 h =>
 CondW v3 (
 rs_147_0 a0 l2 a1 N1 v3 h κ) (
 κ (Value.int .i64 (-1)) h)) := by kernel_rfl

noncomputable def rs_148_0 (a0 : Value) (l3 : List Value) (N2 : List Value → Heap → Prop) (v4 : Value) (h : Heap) : Prop :=
 RdK (some a0) h fun v5 h =>
 RdK (some (slot l3 21)) h fun v6 h =>
 RdK (some a0) h fun v7 h =>
 RdK (some (slot l3 22)) h fun v8 h =>
 RdK (some a0) h fun v9 h =>
 RdK (some (slot l3 22)) h fun v10 h =>
 RdK (indexAddrS none 4 v9 v10 h fun v _ => some v) h fun v11 h =>
 RdK (loadA none 4 v11 h fun v _ => some v) h fun v12 h =>
 RdK (some a0) h fun v13 h =>
 RdK (some (slot l3 21)) h fun v14 h =>
 RdK (indexAddrS none 4 v13 v14 h fun v _ => some v) h fun v15 h =>
 RdK (loadA none 4 v15 h fun v _ => some v) h fun v16 h =>
 RdK (indexAddrS none 4 v5 v6 h fun v _ => some v) h fun v17 h =>
 storeV False 4 v17 v12 h fun v18 h =>
 SameK ((reV (some a0) v7) && ((reV (some (slot l3 22)) v8) && true)) (RdK (indexAddrS none 4 v7 v8 h fun v _ => some v) h fun v19 h =>
 storeV False 4 v19 v16 h fun v20 h =>
 binB False Try.prog .add 3 true false (slot l3 21) (Value.int .i64 (1)) h fun v21 h =>
 binB False Try.prog .sub 3 true false (slot l3 22) (Value.int .i64 (1)) h fun v22 h =>
 N2 [(slot l3 21), (slot l3 22), v4, v5, v6, v7, v8, v9, v10, v11, v12, v13, v14, v15, v16, v17, v19, (slot l3 21), v21, (slot l3 22), v22, v21, v22] h)

/-- slices.Reverse[[]latchstring/api.Held,latchstring/api.Held] -/
theorem rs_148 (a0 : Value) (h : Heap) (κ : Value → Heap → Prop) : BodyW Try.prog 148 [a0] h κ = (
 lenSli False a0 h fun v0 h =>
 binB False Try.prog .sub 3 true false v0 (Value.int .i64 (1)) h fun v1 h =>
 LoopR [undef, undef, undef, undef, undef, undef, undef, undef, undef, undef, undef, undef, undef, undef, undef, undef, undef, undef, undef, undef, undef, (Value.int .i64 (0)), v1] h fun l3 h N2 =>
 binB False Try.prog .lss 3 false false (slot l3 21) (slot l3 22) h fun v4 h =>
 CondW v4 (
 rs_148_0 a0 l3 N2 v4 h) (
 κ (Value.tuple (Array.mk [])) h)) := by kernel_rfl

noncomputable def rs_149_0 (l3 : List Value) (a2 : Value) (a0 : Value) (a4 : Value) (N2 : List Value → Heap → Prop) (v4 : Value) (h : Heap) : Prop :=
 binB False Try.prog .gtr 3 false false (slot l3 17) (slot l3 33) h fun v5 h =>
 CondW v5 (
 binB False Try.prog .sub 3 false false a2 (slot l3 17) h fun v6 h =>
 CallW Try.prog 151 [a0, v6, a2, (slot l3 33), a4] h fun v7 h =>
 binB False Try.prog .sub 3 false false (slot l3 17) (slot l3 33) h fun v8 h =>
 N2 [(slot l3 17), (slot l3 33), v4, (slot l3 17), (slot l3 33), v5, a0, a2, (slot l3 17), v6, a2, (slot l3 33), a4, v7, (slot l3 17), (slot l3 33), v8, v8, (slot l3 18), (slot l3 19), (slot l3 20), (slot l3 21), (slot l3 22), (slot l3 23), (slot l3 24), (slot l3 25), (slot l3 26), (slot l3 27), (slot l3 28), (slot l3 29), (slot l3 30), (slot l3 31), (slot l3 32), (slot l3 33)] h) (
 binB False Try.prog .sub 3 false false a2 (slot l3 17) h fun v9 h =>
 binB False Try.prog .add 3 false false a2 (slot l3 33) h fun v10 h =>
 binB False Try.prog .sub 3 false false v10 (slot l3 17) h fun v11 h =>
 CallW Try.prog 151 [a0, v9, v11, (slot l3 17), a4] h fun v12 h =>
 binB False Try.prog .sub 3 false false (slot l3 33) (slot l3 17) h fun v13 h =>
 N2 [(slot l3 17), (slot l3 33), v4, (slot l3 17), (slot l3 33), v5, (slot l3 6), (slot l3 7), (slot l3 8), (slot l3 9), (slot l3 10), (slot l3 11), (slot l3 12), (slot l3 13), (slot l3 14), (slot l3 15), (slot l3 16), (slot l3 17), a0, a2, (slot l3 17), v9, a2, (slot l3 33), v10, (slot l3 17), v11, (slot l3 17), a4, v12, (slot l3 33), (slot l3 17), v13, v13] h)

/-- slices.rotateCmpFunc[latchstring/api.Held] -/
theorem rs_149 (a0 a1 a2 a3 a4 : Value) (h : Heap) (κ : Value → Heap → Prop) : BodyW Try.prog 149 [a0, a1, a2, a3, a4] h κ = (
 binB False Try.prog .sub 3 false false a2 a1 h fun v0 h =>
 binB False Try.prog .sub 3 false false a3 a2 h fun v1 h =>
 LoopR [undef, undef, undef, undef, undef, undef, undef, undef, undef, undef, undef, undef, undef, undef, undef, undef, undef, v0, undef, undef, undef, undef, undef, undef, undef, undef, undef, undef, undef, undef, undef, undef, undef, v1] h fun l3 h N2 =>
 binB False Try.prog .neq 3 false false (slot l3 17) (slot l3 33) h fun v4 h =>
 CondW v4 (
 rs_149_0 l3 a2 a0 a4 N2 v4 h) (
 binB False Try.prog .sub 3 false false a2 (slot l3 17) h fun v14 h =>
 CallW Try.prog 151 [a0, v14, a2, (slot l3 17), a4] h fun v15 h =>
 κ (Value.tuple (Array.mk [])) h)) := by kernel_rfl

/-- slices.rotateLeft[int] -/
theorem rs_150 (a0 a1 : Value) (h : Heap) (κ : Value → Heap → Prop) : BodyW Try.prog 150 [a0, a1] h κ = (
 sliceB False 3 1 a0 none (some a1) none h fun v0 h =>
 CallW Try.prog 152 [v0] h fun v1 h =>
 sliceB False 3 1 a0 (some a1) none none h fun v2 h =>
 CallW Try.prog 152 [v2] h fun v3 h =>
 CallW Try.prog 152 [a0] h fun v4 h =>
 κ (Value.tuple (Array.mk [])) h) := by kernel_rfl

noncomputable def rs_151_0 (a0 : Value) (a1 : Value) (l1 : List Value) (a2 : Value) (N0 : List Value → Heap → Prop) (a3 : Value) (v2 : Value) (h : Heap) : Prop :=
 RdK (some a0) h fun v3 h =>
 RdK (some a1) h fun v4 h =>
 RdK (some (slot l1 27)) h fun v5 h =>
 RdK (binB none Try.prog .add 3 false false v4 v5 h fun v _ => some v) h fun v6 h =>
 RdK (some a0) h fun v7 h =>
 RdK (some a2) h fun v8 h =>
 RdK (some (slot l1 27)) h fun v9 h =>
 RdK (binB none Try.prog .add 3 false false v8 v9 h fun v _ => some v) h fun v10 h =>
 RdK (some a0) h fun v11 h =>
 RdK (some a2) h fun v12 h =>
 RdK (some (slot l1 27)) h fun v13 h =>
 RdK (binB none Try.prog .add 3 false false v12 v13 h fun v _ => some v) h fun v14 h =>
 RdK (indexAddrS none 4 v11 v14 h fun v _ => some v) h fun v15 h =>
 RdK (loadA none 4 v15 h fun v _ => some v) h fun v16 h =>
 RdK (some a0) h fun v17 h =>
 RdK (some a1) h fun v18 h =>
 RdK (some (slot l1 27)) h fun v19 h =>
 RdK (binB none Try.prog .add 3 false false v18 v19 h fun v _ => some v) h fun v20 h =>
 RdK (indexAddrS none 4 v17 v20 h fun v _ => some v) h fun v21 h =>
 RdK (loadA none 4 v21 h fun v _ => some v) h fun v22 h =>
 RdK (indexAddrS none 4 v3 v6 h fun v _ => some v) h fun v23 h =>
 storeV False 4 v23 v16 h fun v24 h =>
 SameK ((reV (some a0) v7) && ((reV (some a2) v8) && ((reV (some (slot l1 27)) v9) && ((reV (binB none Try.prog .add 3 false false v8 v9 h fun v _ => some v) v10) && true)))) (RdK (indexAddrS none 4 v7 v10 h fun v _ => some v) h fun v25 h =>
 storeV False 4 v25 v22 h fun v26 h =>
 binB False Try.prog .add 3 true false (slot l1 27) (Value.int .i64 (1)) h fun v27 h =>
 N0 [(slot l1 27), a3, v2, v3, v4, v5, v6, v7, v8, v9, v10, v11, v12, v13, v14, v15, v16, v17, v18, v19, v20, v21, v22, v23, v25, (slot l1 27), v27, v27] h)

/-- slices.swapRangeCmpFunc[latchstring/api.Held] -/
theorem rs_151 (a0 a1 a2 a3 a4 : Value) (h : Heap) (κ : Value → Heap → Prop) : BodyW Try.prog 151 [a0, a1, a2, a3, a4] h κ = (
 LoopR [undef, undef, undef, undef, undef, undef, undef, undef, undef, undef, undef, undef, undef, undef, undef, undef, undef, undef, undef, undef, undef, undef, undef, undef, undef, undef, undef, (Value.int .i64 (0))] h fun l1 h N0 =>
 binB False Try.prog .lss 3 false false (slot l1 27) a3 h fun v2 h =>
 CondW v2 (
 rs_151_0 a0 a1 l1 a2 N0 a3 v2 h) (
 κ (Value.tuple (Array.mk [])) h)) := by kernel_rfl

noncomputable def rs_152_0 (a0 : Value) (l3 : List Value) (N2 : List Value → Heap → Prop) (v4 : Value) (h : Heap) : Prop :=
 RdK (some a0) h fun v5 h =>
 RdK (some (slot l3 21)) h fun v6 h =>
 RdK (some a0) h fun v7 h =>
 RdK (some (slot l3 22)) h fun v8 h =>
 RdK (some a0) h fun v9 h =>
 RdK (some (slot l3 22)) h fun v10 h =>
 RdK (indexAddrS none 1 v9 v10 h fun v _ => some v) h fun v11 h =>
 RdK (load1 none v11 h fun v _ => some v) h fun v12 h =>
 RdK (some a0) h fun v13 h =>
 RdK (some (slot l3 21)) h fun v14 h =>
 RdK (indexAddrS none 1 v13 v14 h fun v _ => some v) h fun v15 h =>
 RdK (load1 none v15 h fun v _ => some v) h fun v16 h =>
 RdK (indexAddrS none 1 v5 v6 h fun v _ => some v) h fun v17 h =>
 storeV False 1 v17 v12 h fun v18 h =>
 SameK ((reV (some a0) v7) && ((reV (some (slot l3 22)) v8) && true)) (RdK (indexAddrS none 1 v7 v8 h fun v _ => some v) h fun v19 h =>
 storeV False 1 v19 v16 h fun v20 h =>
 binB False Try.prog .add 3 true false (slot l3 21) (Value.int .i64 (1)) h fun v21 h =>
 binB False Try.prog .sub 3 true false (slot l3 22) (Value.int .i64 (1)) h fun v22 h =>
 N2 [(slot l3 21), (slot l3 22), v4, v5, v6, v7, v8, v9, v10, v11, v12, v13, v14, v15, v16, v17, v19, (slot l3 21), v21, (slot l3 22), v22, v21, v22] h)

/-- slices.Reverse[[]int,int] -/
theorem rs_152 (a0 : Value) (h : Heap) (κ : Value → Heap → Prop) : BodyW Try.prog 152 [a0] h κ = (
 lenSli False a0 h fun v0 h =>
 binB False Try.prog .sub 3 true false v0 (Value.int .i64 (1)) h fun v1 h =>
 LoopR [undef, undef, undef, undef, undef, undef, undef, undef, undef, undef, undef, undef, undef, undef, undef, undef, undef, undef, undef, undef, undef, (Value.int .i64 (0)), v1] h fun l3 h N2 =>
 binB False Try.prog .lss 3 false false (slot l3 21) (slot l3 22) h fun v4 h =>
 CondW v4 (
 rs_152_0 a0 l3 N2 v4 h) (
 κ (Value.tuple (Array.mk [])) h)) := by kernel_rfl

end Go.Proofs
