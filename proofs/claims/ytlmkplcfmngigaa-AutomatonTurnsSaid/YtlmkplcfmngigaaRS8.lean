/-
  PROVED HERE: a part of the proof, by a calculus of weakest conditions over an abstract heap (RS8).
-/
import Derived.Test.YtlmkplcfmngigaaV3
import Derived.Test.YtlmkplcfmngigaaProg
import Derived.KernelRfl
set_option linter.unusedVariables false
set_option linter.unusedSimpArgs false
set_option maxRecDepth 100000
namespace Go.Proofs
open Go.Vai

noncomputable def rs_4_0 (b20 : Nat) (b10 : Nat) (N22 : List Value → Heap → Prop) (v24 : Value) (v25 : Value) (v26 : Value) (v27 : Value) (v6 : Value) (v28 : Value) (v29 : Value) (v30 : Value) (v31 : Value) (v32 : Value) (v33 : Value) (l12 : List Value) (h : Heap) (κ : Value → Heap → Prop) : Prop :=
 fieldAddrB False 1 (ptrTo b20) h fun v34 h =>
 loadA False 2 v34 h fun v35 h =>
 lookupB False Try.prog 27 (Value.int .i64 (0)) false (mapTo b10) v35 h fun v36 h =>
 binB False Try.prog .neq 28 true false v36 (Value.int .i64 (0)) h fun v37 h =>
 GuardW (wantV v37 false) (fun K38 =>
 fieldAddrB False 1 (ptrTo b20) h K38) h fun v39 h =>
 GuardW (wantV v37 false) (fun K40 =>
 loadA False 2 v39 h K40) h fun v41 h =>
 GuardW (wantV v37 false) (fun K42 =>
 fieldAddrB False 3 (ptrTo b20) h K42) h fun v43 h =>
 GuardW (wantV v37 false) (fun K44 =>
 load1 False v43 h K44) h fun v45 h =>
 GuardW (wantV v37 false) (fun K46 =>
 CallW Try.prog 21 [v41, v45] h K46) h fun v47 h =>
 GuardW (wantV v37 false) (fun K48 =>
 unB False .not v47 h K48) h fun v49 h =>
 pickB False v37 (Value.bool true) v49 h fun v50 h =>
 CondW v50 (
 κ (Value.bool false) h) (
 fieldAddrB False 1 (ptrTo b20) h fun v51 h =>
 loadA False 2 v51 h fun v52 h =>
 fieldAddrB False 3 (ptrTo b20) h fun v53 h =>
 load1 False v53 h fun v54 h =>
 mapUpdateB False Try.prog 27 (mapTo b10) v52 v54 h fun v55 h =>
 N22 [v24, v25, v26, v27, v6, v28, v29, v30, v31, v32, v32, v32, v33, (mapTo b10), v34, v35, v36, v37, v37, v39, v41, v43, v45, v47, v49, v50, (mapTo b10), v51, v52, v53, v54, (slot l12 40), (slot l12 41), (slot l12 42), (slot l12 43), (slot l12 44), (slot l12 45), (slot l12 46), (slot l12 47), (slot l12 48), (slot l12 49), (slot l12 50), (slot l12 51), (slot l12 52), (slot l12 53), (slot l12 54), (slot l12 55), (slot l12 56), (slot l12 57), (slot l12 58), (slot l12 59), (slot l12 60), (slot l12 61), (slot l12 62), (slot l12 63), (slot l12 141), (slot l12 64), (slot l12 65), (slot l12 66)] h)

noncomputable def rs_4_1 (b20 : Nat) (v6 : Value) (b10 : Nat) (N22 : List Value → Heap → Prop) (v24 : Value) (v25 : Value) (v26 : Value) (v27 : Value) (l12 : List Value) (h : Heap) (κ : Value → Heap → Prop) : Prop :=
 fieldAddrB False 1 (ptrTo b20) h fun v28 h =>
 loadA False 2 v28 h fun v29 h =>
 fieldAddrB False 3 (ptrTo b20) h fun v30 h =>
 load1 False v30 h fun v31 h =>
 CallW Try.prog 20 [v6, v29, v31] h fun v32 h =>
 binB False Try.prog .eql 36 true false v32 (Value.int .i64 (0)) h fun v33 h =>
 CondW v33 (
 rs_4_0 b20 b10 N22 v24 v25 v26 v27 v6 v28 v29 v30 v31 v32 v33 l12 h κ) (
 N22 [v24, v25, v26, v27, v6, v28, v29, v30, v31, v32, v32, v32, v33, (slot l12 22), (slot l12 23), (slot l12 24), (slot l12 25), (slot l12 26), (slot l12 27), (slot l12 28), (slot l12 29), (slot l12 30), (slot l12 31), (slot l12 32), (slot l12 33), (slot l12 34), (slot l12 35), (slot l12 36), (slot l12 37), (slot l12 38), (slot l12 39), (slot l12 40), (slot l12 41), (slot l12 42), (slot l12 43), (slot l12 44), (slot l12 45), (slot l12 46), (slot l12 47), (slot l12 48), (slot l12 49), (slot l12 50), (slot l12 51), (slot l12 52), (slot l12 53), (slot l12 54), (slot l12 55), (slot l12 56), (slot l12 57), (slot l12 58), (slot l12 59), (slot l12 60), (slot l12 61), (slot l12 62), (slot l12 63), (slot l12 141), (slot l12 64), (slot l12 65), (slot l12 66)] h)

noncomputable def rs_4_2 (b20 : Nat) (v6 : Value) (b10 : Nat) (N22 : List Value → Heap → Prop) (v24 : Value) (v25 : Value) (v26 : Value) (v27 : Value) (l12 : List Value) (h : Heap) (κ : Value → Heap → Prop) : Prop :=
 fieldAddrB False 1 (ptrTo b20) h fun v56 h =>
 loadA False 2 v56 h fun v57 h =>
 CallW Try.prog 22 [v6, v57] h fun v58 h =>
 extractB False 0 v58 h fun v59 h =>
 extractB False 1 v58 h fun v60 h =>
 fieldAddrB False 1 (ptrTo b20) h fun v61 h =>
 loadA False 2 v61 h fun v62 h =>
 lookupB False Try.prog 27 (Value.int .i64 (0)) false (mapTo b10) v62 h fun v63 h =>
 binB False Try.prog .neq 28 false false v59 v63 h fun v64 h =>
 GuardW (wantV v64 false) (fun K65 =>
 K65 v60 h) h fun v66 h =>
 GuardW (wantV v64 false) (fun K67 =>
 K67 (mapTo b10) h) h fun v68 h =>
 GuardW (wantV v64 false) (fun K69 =>
 fieldAddrB False 1 (ptrTo b20) h K69) h fun v70 h =>
 GuardW (wantV v64 false) (fun K71 =>
 loadA False 2 v70 h K71) h fun v72 h =>
 GuardW (wantV v64 false) (fun K73 =>
 lookupB False Try.prog 27 (Value.int .i64 (0)) false v68 v72 h K73) h fun v74 h =>
 GuardW (wantV v64 false) (fun K75 =>
 binB False Try.prog .neq 28 true false v74 (Value.int .i64 (0)) h K75) h fun v76 h =>
 GuardW (wantV v64 false) (fun K77 =>
 binB False Try.prog .neq 4 false false v66 v76 h K77) h fun v78 h =>
 pickB False v64 (Value.bool true) v78 h fun v79 h =>
 CondW v79 (
 κ (Value.bool false) h) (
 fieldAddrB False 1 (ptrTo b20) h fun v80 h =>
 loadA False 2 v80 h fun v81 h =>
 mapUpdateB False Try.prog 27 (mapTo b10) v81 (Value.int .i64 (0)) h fun v82 h =>
 N22 [v24, v25, v26, v27, (slot l12 13), (slot l12 14), (slot l12 15), (slot l12 16), (slot l12 17), (slot l12 18), (slot l12 19), (slot l12 20), (slot l12 21), (slot l12 22), (slot l12 23), (slot l12 24), (slot l12 25), (slot l12 26), (slot l12 27), (slot l12 28), (slot l12 29), (slot l12 30), (slot l12 31), (slot l12 32), (slot l12 33), (slot l12 34), (slot l12 35), (slot l12 36), (slot l12 37), (slot l12 38), (slot l12 39), v6, v56, v57, v58, v58, v59, v60, v59, v60, v59, (mapTo b10), v61, v62, v63, v64, v64, v66, v68, v70, v72, v74, v76, v78, v79, (slot l12 141), (mapTo b10), v80, v81] h)

noncomputable def rs_4_3 (b10 : Nat) (v83 : Value) (l102 : List Value) (N101 : List Value → Heap → Prop) (v103 : Value) (v104 : Value) (h : Heap) (κ : Value → Heap → Prop) : Prop :=
 RdK (some (mapTo b10)) h fun v105 h =>
 RdK (some v83) h fun v106 h =>
 RdK (some (slot l102 61)) h fun v107 h =>
 RdK (indexAddrS none 4 v106 v107 h fun v _ => some v) h fun v108 h =>
 RdK (fieldAddrB none 1 v108 h fun v _ => some v) h fun v109 h =>
 RdK (loadA none 2 v109 h fun v _ => some v) h fun v110 h =>
 RdK (lookupB none Try.prog 27 (Value.int .i64 (0)) false v105 v110 h fun v _ => some v) h fun v111 h =>
 RdK (some v83) h fun v112 h =>
 RdK (some (slot l102 61)) h fun v113 h =>
 RdK (indexAddrS none 4 v112 v113 h fun v _ => some v) h fun v114 h =>
 RdK (fieldAddrB none 3 v114 h fun v _ => some v) h fun v115 h =>
 RdK (load1 none v115 h fun v _ => some v) h fun v116 h =>
 RdK (binB none Try.prog .neq 28 false false v111 v116 h fun v _ => some v) h fun v117 h =>
 RdK (some v117) h fun v118 h =>
 GuardW (wantV v118 false) (fun K119 =>
 RdK (some v83) h K119) h fun v120 h =>
 GuardW (wantV v118 false) (fun K121 =>
 RdK (some (slot l102 61)) h K121) h fun v122 h =>
 GuardW (wantV v118 false) (fun K123 =>
 RdK (indexAddrS none 4 v120 v122 h fun v _ => some v) h K123) h fun v124 h =>
 GuardW (wantV v118 false) (fun K125 =>
 RdK (fieldAddrB none 0 v124 h fun v _ => some v) h K125) h fun v126 h =>
 GuardW (wantV v118 false) (fun K127 =>
 RdK (load1 none v126 h fun v _ => some v) h K127) h fun v128 h =>
 GuardW (wantV v118 false) (fun K129 =>
 RdK (binB none Try.prog .neq 3 true false v128 (Value.int .i64 (-1)) h fun v _ => some v) h K129) h fun v130 h =>
 RdK (pickB none v118 (Value.bool true) v130 h fun v _ => some v) h fun v131 h =>
 RdK (some v131) h fun v132 h =>
 GuardW (wantV v132 false) (fun K133 =>
 RdK (some v83) h K133) h fun v134 h =>
 GuardW (wantV v132 false) (fun K135 =>
 RdK (some (slot l102 61)) h K135) h fun v136 h =>
 GuardW (wantV v132 false) (fun K137 =>
 RdK (indexAddrS none 4 v134 v136 h fun v _ => some v) h K137) h fun v138 h =>
 GuardW (wantV v132 false) (fun K139 =>
 RdK (fieldAddrB none 1 v138 h fun v _ => some v) h K139) h fun v140 h =>
 GuardW (wantV v132 false) (fun K141 =>
 RdK (loadA none 2 v140 h fun v _ => some v) h K141) h fun v142 h =>
 GuardW (wantV v132 false) (fun K143 =>
 RdK (some v83) h K143) h fun v144 h =>
 GuardW (wantV v132 false) (fun K145 =>
 RdK (some (slot l102 61)) h K145) h fun v146 h =>
 GuardW (wantV v132 false) (fun K147 =>
 RdK (indexAddrS none 4 v144 v146 h fun v _ => some v) h K147) h fun v148 h =>
 GuardW (wantV v132 false) (fun K149 =>
 RdK (fieldAddrB none 3 v148 h fun v _ => some v) h K149) h fun v150 h =>
 GuardW (wantV v132 false) (fun K151 =>
 RdK (load1 none v150 h fun v _ => some v) h K151) h fun v152 h =>
 GuardW (wantV v132 false) (fun K153 =>
 CallW Try.prog 21 [v142, v152] h K153) h fun v154 h =>
 GuardW (wantV v132 false) (fun K155 =>
 RdK (unB none .not v154 h fun v _ => some v) h K155) h fun v156 h =>
 RdK (pickB none v132 (Value.bool true) v156 h fun v _ => some v) h fun v157 h =>
 RdK (some v157) h fun v158 h =>
 GuardW (wantV v158 false) (fun K159 =>
 RdK (some (slot l102 61)) h K159) h fun v160 h =>
 GuardW (wantV v158 false) (fun K161 =>
 RdK (binB none Try.prog .gtr 3 true false v160 (Value.int .i64 (0)) h fun v _ => some v) h K161) h fun v162 h =>
 GuardW (wantV v158 false) (fun K163 =>
 RdK (some v162) h K163) h fun v164 h =>
 GuardW (wantV v164 true) (fun K165 =>
 RdK (some v83) h K165) h fun v166 h =>
 GuardW (wantV v164 true) (fun K167 =>
 RdK (some (slot l102 61)) h K167) h fun v168 h =>
 GuardW (wantV v164 true) (fun K169 =>
 RdK (binB none Try.prog .sub 3 true false v168 (Value.int .i64 (1)) h fun v _ => some v) h K169) h fun v170 h =>
 GuardW (wantV v164 true) (fun K171 =>
 RdK (indexAddrS none 4 v166 v170 h fun v _ => some v) h K171) h fun v172 h =>
 GuardW (wantV v164 true) (fun K173 =>
 RdK (fieldAddrB none 1 v172 h fun v _ => some v) h K173) h fun v174 h =>
 GuardW (wantV v164 true) (fun K175 =>
 RdK (loadA none 2 v174 h fun v _ => some v) h K175) h fun v176 h =>
 GuardW (wantV v164 true) (fun K177 =>
 RdK (some v83) h K177) h fun v178 h =>
 GuardW (wantV v164 true) (fun K179 =>
 RdK (some (slot l102 61)) h K179) h fun v180 h =>
 GuardW (wantV v164 true) (fun K181 =>
 RdK (indexAddrS none 4 v178 v180 h fun v _ => some v) h K181) h fun v182 h =>
 GuardW (wantV v164 true) (fun K183 =>
 RdK (fieldAddrB none 1 v182 h fun v _ => some v) h K183) h fun v184 h =>
 GuardW (wantV v164 true) (fun K185 =>
 RdK (loadA none 2 v184 h fun v _ => some v) h K185) h fun v186 h =>
 GuardW (wantV v164 true) (fun K187 =>
 CallW Try.prog 25 [v176, v186] h K187) h fun v188 h =>
 GuardW (wantV v164 true) (fun K189 =>
 RdK (binB none Try.prog .geq 3 true false v188 (Value.int .i64 (0)) h fun v _ => some v) h K189) h fun v190 h =>
 GuardW (wantV v158 false) (fun K191 =>
 RdK (pickB none v164 v190 (Value.bool false) h fun v _ => some v) h K191) h fun v192 h =>
 RdK (pickB none v158 (Value.bool true) v192 h fun v _ => some v) h fun v193 h =>
 CondW v193 (
 κ (Value.bool false) h) (
 binB False Try.prog .add 3 true false (slot l102 61) (Value.int .i64 (1)) h fun v194 h =>
 N101 [(slot l102 61), v83, v103, v104, v105, v106, v107, v108, v109, v110, v111, v112, v113, v114, v115, v116, v117, v118, v120, v122, v124, v126, v128, v130, v131, v132, v134, v136, v138, v140, v142, v144, v146, v148, v150, v152, v154, v156, v157, v158, v160, v162, v164, v166, v168, v170, v172, v174, v176, v178, v180, v182, v184, v186, v188, v190, v192, v193, (slot l102 58), (slot l102 61), v194, v194] h)

noncomputable def rs_4_4 (b20 : Nat) (v6 : Value) (b10 : Nat) (N22 : List Value → Heap → Prop) (l12 : List Value) (h : Heap) (κ : Value → Heap → Prop) : Prop :=
 fieldAddrB False 0 (ptrTo b20) h fun v24 h =>
 load1 False v24 h fun v25 h =>
 CallW Try.prog 18 [v25, (Value.int .i64 (3))] h fun v26 h =>
 binB False Try.prog .eql 3 true false v26 (Value.int .i64 (0)) h fun v27 h =>
 CondW v27 (
 rs_4_1 b20 v6 b10 N22 v24 v25 v26 v27 l12 h κ) (
 rs_4_2 b20 v6 b10 N22 v24 v25 v26 v27 l12 h κ)

noncomputable def rs_4_5 (v6 : Value) (v4 : Value) (l12 : List Value) (l23 : List Value) (b10 : Nat) (N15 : List Value → Heap → Prop) (a1 : Value) (v17 : Value) (v18 : Value) (b20 : Nat) (h : Heap) (κ : Value → Heap → Prop) : Prop :=
 CallW Try.prog 23 [v6] h fun v83 h =>
 lenSli False v83 h fun v84 h =>
 binB False Try.prog .gtr 3 false false v84 v4 h fun v85 h =>
 GuardW (wantV v85 false) (fun K86 =>
 K86 v83 h) h fun v87 h =>
 GuardW (wantV v85 false) (fun K88 =>
 lenSli False v87 h K88) h fun v89 h =>
 GuardW (wantV v85 false) (fun K90 =>
 K90 v6 h) h fun v91 h =>
 GuardW (wantV v85 false) (fun K92 =>
 CallW Try.prog 24 [v91] h K92) h fun v93 h =>
 GuardW (wantV v85 false) (fun K94 =>
 binB False Try.prog .add 3 false false v89 v93 h K94) h fun v95 h =>
 GuardW (wantV v85 false) (fun K96 =>
 K96 v4 h) h fun v97 h =>
 GuardW (wantV v85 false) (fun K98 =>
 binB False Try.prog .neq 3 false false v95 v97 h K98) h fun v99 h =>
 pickB False v85 (Value.bool true) v99 h fun v100 h =>
 CondW v100 (
 κ (Value.bool false) h) (
 LoopR [(slot l12 83), (slot l12 84), (slot l12 85), (slot l12 86), (slot l12 87), (slot l12 88), (slot l12 89), (slot l12 90), (slot l12 91), (slot l12 92), (slot l12 93), (slot l12 94), (slot l12 95), (slot l12 96), (slot l12 97), (slot l12 98), (slot l12 99), (slot l12 100), (slot l12 101), (slot l12 102), (slot l12 103), (slot l12 104), (slot l12 105), (slot l12 106), (slot l12 107), (slot l12 108), (slot l12 109), (slot l12 110), (slot l12 111), (slot l12 112), (slot l12 113), (slot l12 114), (slot l12 115), (slot l12 116), (slot l12 117), (slot l12 118), (slot l12 119), (slot l12 120), (slot l12 121), (slot l12 122), (slot l12 123), (slot l12 124), (slot l12 125), (slot l12 126), (slot l12 127), (slot l12 128), (slot l12 129), (slot l12 130), (slot l12 131), (slot l12 132), (slot l12 133), (slot l12 134), (slot l12 135), (slot l12 136), (slot l12 137), (slot l12 138), (slot l12 139), (slot l12 140), (slot l23 55), (slot l12 142), (slot l12 143), (Value.int .i64 (0))] h fun l102 h N101 =>
 lenSli False v83 h fun v103 h =>
 binB False Try.prog .lss 3 false false (slot l102 61) v103 h fun v104 h =>
 CondW v104 (
 rs_4_3 b10 v83 l102 N101 v103 v104 h κ) (
 N15 [a1, (slot l12 147), v17, v18, (ptrTo b20), (slot l23 0), (slot l23 1), (slot l23 2), (slot l23 3), (slot l23 4), (slot l23 5), (slot l23 6), (slot l23 7), (slot l23 8), (slot l23 9), (slot l23 10), (slot l23 11), (slot l23 12), (slot l23 13), (slot l23 14), (slot l23 15), (slot l23 16), (slot l23 17), (slot l23 18), (slot l23 19), (slot l23 20), (slot l23 21), (slot l23 22), (slot l23 23), (slot l23 24), (slot l23 25), (slot l23 26), (slot l23 27), (slot l23 28), (slot l23 29), (slot l23 30), (slot l23 31), (slot l23 32), (slot l23 33), (slot l23 34), (slot l23 35), (slot l23 36), (slot l23 37), (slot l23 38), (slot l23 39), (slot l23 40), (slot l23 41), (slot l23 42), (slot l23 43), (slot l23 44), (slot l23 45), (slot l23 46), (slot l23 47), (slot l23 48), (slot l23 49), (slot l23 50), (slot l23 51), (slot l23 52), (slot l23 53), (slot l23 54), (slot l23 56), (slot l23 57), (slot l23 58), v6, v83, v83, v83, v84, v4, v85, v85, v87, v89, v91, v93, v95, v97, v99, v100, (slot l102 61), v83, v103, v104, (slot l102 4), (slot l102 5), (slot l102 6), (slot l102 7), (slot l102 8), (slot l102 9), (slot l102 10), (slot l102 11), (slot l102 12), (slot l102 13), (slot l102 14), (slot l102 15), (slot l102 16), (slot l102 17), (slot l102 18), (slot l102 19), (slot l102 20), (slot l102 21), (slot l102 22), (slot l102 23), (slot l102 24), (slot l102 25), (slot l102 26), (slot l102 27), (slot l102 28), (slot l102 29), (slot l102 30), (slot l102 31), (slot l102 32), (slot l102 33), (slot l102 34), (slot l102 35), (slot l102 36), (slot l102 37), (slot l102 38), (slot l102 39), (slot l102 40), (slot l102 41), (slot l102 42), (slot l102 43), (slot l102 44), (slot l102 45), (slot l102 46), (slot l102 47), (slot l102 48), (slot l102 49), (slot l102 50), (slot l102 51), (slot l102 52), (slot l102 53), (slot l102 54), (slot l102 55), (slot l102 56), (slot l102 57), (slot l102 58), (slot l102 59), (slot l102 60), (slot l102 61)] h))

noncomputable def rs_4_6 (a1 : Value) (l12 : List Value) (v6 : Value) (b10 : Nat) (v4 : Value) (N15 : List Value → Heap → Prop) (h : Heap) (κ : Value → Heap → Prop) : Prop :=
 indexAddrS False 4 a1 (slot l12 147) h fun v17 h =>
 loadA False 4 v17 h fun v18 h =>
 cellsK False [(Value.int .i64 (0)), (Value.int .i64 (0)), (Value.int .i64 (0)), (Value.int .i64 (0))] 41 false fun o19 => newBlock False o19 h fun b20 h =>
 storeV False 4 (ptrTo b20) v18 h fun v21 h =>
 JoinR (fun N22 =>
 rs_4_4 b20 v6 b10 N22 l12 h κ) fun l23 h =>
 rs_4_5 v6 v4 l12 l23 b10 N15 a1 v17 v18 b20 h κ

noncomputable def rs_4_7 (a1 : Value) (l12 : List Value) (v6 : Value) (b10 : Nat) (v4 : Value) (N11 : List Value → Heap → Prop) (h : Heap) (κ : Value → Heap → Prop) : Prop :=
 lenSli False a1 h fun v13 h =>
 binB False Try.prog .lss 3 false false (slot l12 147) v13 h fun v14 h =>
 CondW v14 (
 JoinR (fun N15 =>
 rs_4_6 a1 l12 v6 b10 v4 N15 h κ) fun l16 h =>
 binB False Try.prog .add 3 true false (slot l12 147) (Value.int .i64 (1)) h fun v195 h =>
 N11 [(slot l12 147), a1, v13, v14, (slot l16 0), (slot l16 1), (slot l16 2), (slot l16 3), (slot l16 4), (slot l16 5), (slot l16 6), (slot l16 7), (slot l16 8), (slot l16 9), (slot l16 10), (slot l16 11), (slot l16 12), (slot l16 13), (slot l16 14), (slot l16 15), (slot l16 16), (slot l16 17), (slot l16 18), (slot l16 19), (slot l16 20), (slot l16 21), (slot l16 22), (slot l16 23), (slot l16 24), (slot l16 25), (slot l16 26), (slot l16 27), (slot l16 28), (slot l16 29), (slot l16 30), (slot l16 31), (slot l16 32), (slot l16 33), (slot l16 34), (slot l16 35), (slot l16 36), (slot l16 37), (slot l16 38), (slot l16 39), (slot l16 40), (slot l16 41), (slot l16 42), (slot l16 43), (slot l16 44), (slot l16 45), (slot l16 46), (slot l16 47), (slot l16 48), (slot l16 49), (slot l16 50), (slot l16 51), (slot l16 52), (slot l16 53), (slot l16 54), (slot l16 55), (slot l16 56), (slot l16 57), (slot l16 58), (slot l16 59), (slot l16 60), (slot l16 61), (slot l16 62), (slot l16 63), (slot l16 64), (slot l16 65), (slot l16 66), (slot l16 67), (slot l16 68), (slot l16 69), (slot l16 70), (slot l16 71), (slot l16 72), (slot l16 73), (slot l16 74), (slot l16 75), (slot l16 76), (slot l16 77), (slot l16 78), (slot l16 79), (slot l16 80), (slot l16 81), (slot l16 82), (slot l16 83), (slot l16 84), (slot l16 85), (slot l16 86), (slot l16 87), (slot l16 88), (slot l16 89), (slot l16 90), (slot l16 91), (slot l16 92), (slot l16 93), (slot l16 94), (slot l16 95), (slot l16 96), (slot l16 97), (slot l16 98), (slot l16 99), (slot l16 100), (slot l16 101), (slot l16 102), (slot l16 103), (slot l16 104), (slot l16 105), (slot l16 106), (slot l16 107), (slot l16 108), (slot l16 109), (slot l16 110), (slot l16 111), (slot l16 112), (slot l16 113), (slot l16 114), (slot l16 115), (slot l16 116), (slot l16 117), (slot l16 118), (slot l16 119), (slot l16 120), (slot l16 121), (slot l16 122), (slot l16 123), (slot l16 124), (slot l16 125), (slot l16 126), (slot l16 127), (slot l16 128), (slot l16 129), (slot l16 130), (slot l16 131), (slot l16 132), (slot l16 133), (slot l16 134), (slot l16 135), (slot l16 136), (slot l16 137), (slot l16 138), (slot l16 139), (slot l16 140), (slot l12 147), v195, v195] h) (
 κ (Value.bool true) h)

noncomputable def rs_4_8 (a0 : Value) (a1 : Value) (h : Heap) (κ : Value → Heap → Prop) : Prop :=
 CallW Try.prog 18 [a0, (Value.int .i64 (9))] h fun v4 h =>
 CallW Try.prog 19 [(Value.int .i64 (-1)), v4] h fun v5 h =>
 extractB False 0 v5 h fun v6 h =>
 extractB False 1 v5 h fun v7 h =>
 binB False Try.prog .neq 36 true false v7 (Value.int .i64 (0)) h fun v8 h =>
 CondW v8 (
 κ (Value.bool false) h) (
 newBlock False (.map [] 0) h fun b10 h =>
 LoopR [undef, undef, undef, undef, undef, undef, undef, undef, undef, undef, undef, undef, undef, undef, undef, undef, undef, undef, undef, undef, undef, undef, undef, undef, undef, undef, undef, undef, undef, undef, undef, undef, undef, undef, undef, undef, undef, undef, undef, undef, undef, undef, undef, undef, undef, undef, undef, undef, undef, undef, undef, undef, undef, undef, undef, undef, undef, undef, undef, undef, undef, undef, undef, undef, undef, undef, undef, undef, undef, undef, undef, undef, undef, undef, undef, undef, undef, undef, undef, undef, undef, undef, undef, undef, undef, undef, undef, undef, undef, undef, undef, undef, undef, undef, undef, undef, undef, undef, undef, undef, undef, undef, undef, undef, undef, undef, undef, undef, undef, undef, undef, undef, undef, undef, undef, undef, undef, undef, undef, undef, undef, undef, undef, undef, undef, undef, undef, undef, undef, undef, undef, undef, undef, undef, undef, undef, undef, undef, undef, undef, undef, (Value.bool false), undef, undef, undef, undef, undef, (Value.int .i64 (0))] h fun l12 h N11 =>
 rs_4_7 a1 l12 v6 b10 v4 N11 h κ)

/-- latchstring/latchstringlaw18.PassRoom -/
theorem rs_4 (a0 a1 : Value) (h : Heap) (κ : Value → Heap → Prop) : BodyW Try.prog 4 [a0, a1] h κ = (
 CallW Try.prog 17 [] h fun v0 h =>
 unB False .not v0 h fun v1 h =>
 CondW v1 (
 κ (Value.bool false) h) (
 lenSli False a1 h fun v2 h =>
 binB False Try.prog .gtr 3 true false v2 (Value.int .i64 (60)) h fun v3 h =>
 CondW v3 (
 κ (Value.bool true) h) (
 rs_4_8 a0 a1 h κ))) := by kernel_rfl

noncomputable def rs_5_0 (v27 : Value) (v17 : Value) (l11 : List Value) (N13 : List Value → Heap → Prop) (a2 : Value) (v9 : Value) (v15 : Value) (v16 : Value) (v18 : Value) (v19 : Value) (v24 : Value) (v20 : Value) (v21 : Value) (v22 : Value) (v23 : Value) (v25 : Value) (v26 : Value) (v28 : Value) (v2 : Value) (v29 : Value) (v30 : Value) (v32 : Value) (v34 : Value) (v36 : Value) (v38 : Value) (v40 : Value) (v42 : Value) (v43 : Value) (h : Heap) : Prop :=
 binB False Try.prog .eql 36 true false v27 (Value.int .i64 (0)) h fun v44 h =>
 CondW v44 (
 CallW Try.prog 26 [v17] h fun v45 h =>
 fillB False [(0, 2)] [v45] (repeatL [(Value.int .i64 (0)), (Value.int .i64 (0))] 1) fun cs48 => cellsK False cs48 27 false fun o46 => newBlock False o46 h fun b47 h =>
 appendB False 27 2 [(Value.int .i64 (0)), (Value.int .i64 (0))] false (slot l11 44) (sliceTo 1 1 b47) h fun v49 h =>
 N13 [(slot l11 47), a2, v9, v15, v16, v9, v17, v17, v18, v19, v24, v20, v21, v22, v23, v25, v26, v27, v27, v27, v28, (slot l11 47), v2, v29, v30, v30, v32, v34, v36, v38, v40, v42, v43, (slot l11 36), v27, v44, (slot l11 44), v17, v45, (sliceTo 1 1 b47), v49, v49] h) (
 N13 [(slot l11 47), a2, v9, v15, v16, v9, v17, v17, v18, v19, v24, v20, v21, v22, v23, v25, v26, v27, v27, v27, v28, (slot l11 47), v2, v29, v30, v30, v32, v34, v36, v38, v40, v42, v43, (slot l11 36), v27, v44, (slot l11 39), (slot l11 40), (slot l11 41), (slot l11 42), (slot l11 43), (slot l11 44)] h)

noncomputable def rs_5_1 (a2 : Value) (v9 : Value) (l11 : List Value) (v6 : Value) (a1 : Value) (v2 : Value) (N13 : List Value → Heap → Prop) (h : Heap) (κ : Value → Heap → Prop) : Prop :=
 CallW Try.prog 18 [a2, v9] h fun v15 h =>
 binB False Try.prog .add 3 false false (slot l11 47) v15 h fun v16 h =>
 binB False Try.prog .rem 3 false false v16 v9 h fun v17 h =>
 RdK (some v6) h fun v18 h =>
 RdK (some v17) h fun v19 h =>
 RdK (some a1) h fun v20 h =>
 RdK (some v17) h fun v21 h =>
 RdK (indexAddrS none 1 v20 v21 h fun v _ => some v) h fun v22 h =>
 RdK (load1 none v22 h fun v _ => some v) h fun v23 h =>
 CallW Try.prog 26 [v19] h fun v24 h =>
 SameK ((reV (some v6) v18) && ((reV (some a1) v20) && ((reV (some v17) v21) && ((reV (indexAddrS none 1 v20 v21 h fun v _ => some v) v22) && ((reV (load1 none v22 h fun v _ => some v) v23) && true))))) (CallW Try.prog 18 [v23, (Value.int .i64 (3))] h fun v25 h =>
 SameK ((reV (some v6) v18) && true) (RdK (binB none Try.prog .add 3 true false (Value.int .i64 (1)) v25 h fun v _ => some v) h fun v26 h =>
 CallW Try.prog 20 [v18, v24, v26] h fun v27 h =>
 binB False Try.prog .eql 36 true false v27 (Value.int .i64 (0)) h fun v28 h =>
 binB False Try.prog .lss 3 false false (slot l11 47) v2 h fun v29 h =>
 binB False Try.prog .neq 4 false false v28 v29 h fun v30 h =>
 GuardW (wantV v30 false) (fun K31 =>
 K31 v27 h) h fun v32 h =>
 GuardW (wantV v30 false) (fun K33 =>
 binB False Try.prog .neq 36 true false v32 (Value.int .i64 (0)) h K33) h fun v34 h =>
 GuardW (wantV v30 false) (fun K35 =>
 K35 v34 h) h fun v36 h =>
 GuardW (wantV v36 true) (fun K37 =>
 K37 v27 h) h fun v38 h =>
 GuardW (wantV v36 true) (fun K39 =>
 binB False Try.prog .neq 36 true false v38 (Value.int .i64 (8)) h K39) h fun v40 h =>
 GuardW (wantV v30 false) (fun K41 =>
 pickB False v36 v40 (Value.bool false) h K41) h fun v42 h =>
 pickB False v30 (Value.bool true) v42 h fun v43 h =>
 CondW v43 (
 κ (Value.bool false) h) (
 rs_5_0 v27 v17 l11 N13 a2 v9 v15 v16 v18 v19 v24 v20 v21 v22 v23 v25 v26 v28 v2 v29 v30 v32 v34 v36 v38 v40 v42 v43 h)))

noncomputable def rs_5_2 (l11 : List Value) (l68 : List Value) (v6 : Value) (a1 : Value) (v2 : Value) (N67 : List Value → Heap → Prop) (v69 : Value) (v70 : Value) (h : Heap) (κ : Value → Heap → Prop) : Prop :=
 indexAddrS False 2 (slot l11 44) (slot l68 46) h fun v71 h =>
 loadA False 2 v71 h fun v72 h =>
 CallW Try.prog 22 [v6, v72] h fun v73 h =>
 extractB False 0 v73 h fun v74 h =>
 extractB False 1 v73 h fun v75 h =>
 unB False .not v75 h fun v76 h =>
 GuardW (wantV v76 false) (fun K77 =>
 K77 v74 h) h fun v78 h =>
 GuardW (wantV v76 false) (fun K79 =>
 K79 a1 h) h fun v80 h =>
 GuardW (wantV v76 false) (fun K81 =>
 K81 (slot l11 44) h) h fun v82 h =>
 GuardW (wantV v76 false) (fun K83 =>
 K83 (slot l68 46) h) h fun v84 h =>
 GuardW (wantV v76 false) (fun K85 =>
 indexAddrS False 2 v82 v84 h K85) h fun v86 h =>
 GuardW (wantV v76 false) (fun K87 =>
 fieldAddrB False 0 v86 h K87) h fun v88 h =>
 GuardW (wantV v76 false) (fun K89 =>
 load1 False v88 h K89) h fun v90 h =>
 GuardW (wantV v76 false) (fun K91 =>
 indexAddrS False 1 v80 v90 h K91) h fun v92 h =>
 GuardW (wantV v76 false) (fun K93 =>
 load1 False v92 h K93) h fun v94 h =>
 GuardW (wantV v76 false) (fun K95 =>
 CallW Try.prog 18 [v94, (Value.int .i64 (3))] h K95) h fun v96 h =>
 GuardW (wantV v76 false) (fun K97 =>
 binB False Try.prog .add 3 true false (Value.int .i64 (1)) v96 h K97) h fun v98 h =>
 GuardW (wantV v76 false) (fun K99 =>
 binB False Try.prog .neq 28 false false v78 v98 h K99) h fun v100 h =>
 pickB False v76 (Value.bool true) v100 h fun v101 h =>
 GuardW (wantV v101 false) (fun K102 =>
 K102 v6 h) h fun v103 h =>
 GuardW (wantV v101 false) (fun K104 =>
 CallW Try.prog 24 [v103] h K104) h fun v105 h =>
 GuardW (wantV v101 false) (fun K106 =>
 K106 v2 h) h fun v107 h =>
 GuardW (wantV v101 false) (fun K108 =>
 K108 (slot l11 44) h) h fun v109 h =>
 GuardW (wantV v101 false) (fun K110 =>
 lenSli False v109 h K110) h fun v111 h =>
 GuardW (wantV v101 false) (fun K112 =>
 binB False Try.prog .sub 3 false false v107 v111 h K112) h fun v113 h =>
 GuardW (wantV v101 false) (fun K114 =>
 K114 (slot l68 46) h) h fun v115 h =>
 GuardW (wantV v101 false) (fun K116 =>
 binB False Try.prog .add 3 false false v113 v115 h K116) h fun v117 h =>
 GuardW (wantV v101 false) (fun K118 =>
 binB False Try.prog .add 3 true false v117 (Value.int .i64 (1)) h K118) h fun v119 h =>
 GuardW (wantV v101 false) (fun K120 =>
 binB False Try.prog .neq 3 false false v105 v119 h K120) h fun v121 h =>
 pickB False v101 (Value.bool true) v121 h fun v122 h =>
 CondW v122 (
 κ (Value.bool false) h) (
 binB False Try.prog .add 3 true false (slot l68 46) (Value.int .i64 (1)) h fun v123 h =>
 N67 [(slot l68 46), (slot l11 44), v69, v70, v6, (slot l11 44), (slot l68 46), v71, v72, v73, v73, v74, v75, v74, v75, v75, v76, v76, v78, v80, v82, v84, v86, v88, v90, v92, v94, v96, v98, v100, v101, v101, v103, v105, v107, v109, v111, v113, v115, v117, v119, v121, v122, (slot l68 43), (slot l68 46), v123, v123] h)

noncomputable def rs_5_3 (l11 : List Value) (l68 : List Value) (v6 : Value) (a1 : Value) (v2 : Value) (N67 : List Value → Heap → Prop) (h : Heap) (κ : Value → Heap → Prop) : Prop :=
 lenSli False (slot l11 44) h fun v69 h =>
 binB False Try.prog .lss 3 false false (slot l68 46) v69 h fun v70 h =>
 CondW v70 (
 rs_5_2 l11 l68 v6 a1 v2 N67 v69 v70 h κ) (
 CallW Try.prog 27 [v6] h fun v124 h =>
 binB False Try.prog .eql 3 true false v124 (Value.int .i64 (0)) h fun v125 h =>
 κ v125 h)

noncomputable def rs_5_4 (v6 : Value) (v9 : Value) (v2 : Value) (l11 : List Value) (a1 : Value) (h : Heap) (κ : Value → Heap → Prop) : Prop :=
 CallW Try.prog 27 [v6] h fun v51 h =>
 minB False v9 v2 h fun v52 h =>
 binB False Try.prog .neq 3 false false v51 v52 h fun v53 h =>
 GuardW (wantV v53 false) (fun K54 =>
 K54 v6 h) h fun v55 h =>
 GuardW (wantV v53 false) (fun K56 =>
 CallW Try.prog 23 [v55] h K56) h fun v57 h =>
 GuardW (wantV v53 false) (fun K58 =>
 lenSli False v57 h K58) h fun v59 h =>
 GuardW (wantV v53 false) (fun K60 =>
 K60 v6 h) h fun v61 h =>
 GuardW (wantV v53 false) (fun K62 =>
 CallW Try.prog 27 [v61] h K62) h fun v63 h =>
 GuardW (wantV v53 false) (fun K64 =>
 binB False Try.prog .neq 3 false false v59 v63 h K64) h fun v65 h =>
 pickB False v53 (Value.bool true) v65 h fun v66 h =>
 CondW v66 (
 κ (Value.bool false) h) (
 LoopR [undef, undef, undef, undef, undef, undef, undef, undef, undef, undef, undef, undef, undef, undef, undef, undef, undef, undef, undef, undef, undef, undef, undef, undef, undef, undef, undef, undef, undef, undef, undef, undef, undef, undef, undef, undef, undef, undef, undef, undef, undef, undef, undef, (slot l11 36), undef, undef, (Value.int .i64 (0))] h fun l68 h N67 =>
 rs_5_3 l11 l68 v6 a1 v2 N67 h κ)

noncomputable def rs_5_5 (l11 : List Value) (v9 : Value) (a2 : Value) (v6 : Value) (a1 : Value) (v2 : Value) (N10 : List Value → Heap → Prop) (h : Heap) (κ : Value → Heap → Prop) : Prop :=
 binB False Try.prog .lss 3 false false (slot l11 47) v9 h fun v12 h =>
 CondW v12 (
 JoinR (fun N13 =>
 rs_5_1 a2 v9 l11 v6 a1 v2 N13 h κ) fun l14 h =>
 binB False Try.prog .add 3 true false (slot l11 47) (Value.int .i64 (1)) h fun v50 h =>
 N10 [(slot l11 47), v9, v12, (slot l14 0), (slot l14 1), (slot l14 2), (slot l14 3), (slot l14 4), (slot l14 5), (slot l14 6), (slot l14 7), (slot l14 8), (slot l14 9), (slot l14 10), (slot l14 11), (slot l14 12), (slot l14 13), (slot l14 14), (slot l14 15), (slot l14 16), (slot l14 17), (slot l14 18), (slot l14 19), (slot l14 20), (slot l14 21), (slot l14 22), (slot l14 23), (slot l14 24), (slot l14 25), (slot l14 26), (slot l14 27), (slot l14 28), (slot l14 29), (slot l14 30), (slot l14 31), (slot l14 32), (slot l14 33), (slot l14 34), (slot l14 35), (slot l14 36), (slot l14 37), (slot l14 38), (slot l14 39), (slot l14 40), (slot l14 41), (slot l11 47), v50, v50] h) (
 rs_5_4 v6 v9 v2 l11 a1 h κ)

noncomputable def rs_5_6 (v2 : Value) (a1 : Value) (a2 : Value) (h : Heap) (κ : Value → Heap → Prop) : Prop :=
 CallW Try.prog 19 [(Value.int .i64 (-2)), v2] h fun v5 h =>
 extractB False 0 v5 h fun v6 h =>
 extractB False 1 v5 h fun v7 h =>
 binB False Try.prog .neq 36 true false v7 (Value.int .i64 (0)) h fun v8 h =>
 CondW v8 (
 κ (Value.bool false) h) (
 lenSli False a1 h fun v9 h =>
 LoopR [undef, undef, undef, undef, undef, undef, undef, undef, undef, undef, undef, undef, undef, undef, undef, undef, undef, undef, undef, undef, undef, undef, undef, undef, undef, undef, undef, undef, undef, undef, undef, undef, undef, undef, undef, undef, (Value.bool false), undef, undef, undef, undef, undef, undef, undef, (Value.slice none 0 0), undef, undef, (Value.int .i64 (0))] h fun l11 h N10 =>
 rs_5_5 l11 v9 a2 v6 a1 v2 N10 h κ)

/-- latchstring/latchstringlaw18.PassKeeps -/
theorem rs_5 (a0 a1 a2 : Value) (h : Heap) (κ : Value → Heap → Prop) : BodyW Try.prog 5 [a0, a1, a2] h κ = (
 CallW Try.prog 17 [] h fun v0 h =>
 unB False .not v0 h fun v1 h =>
 CondW v1 (
 κ (Value.bool false) h) (
 CallW Try.prog 18 [a0, (Value.int .i64 (9))] h fun v2 h =>
 lenSli False a1 h fun v3 h =>
 binB False Try.prog .gtr 3 true false v3 (Value.int .i64 (8)) h fun v4 h =>
 CondW v4 (
 κ (Value.bool true) h) (
 rs_5_6 v2 a1 a2 h κ))) := by kernel_rfl

noncomputable def rs_6_0 (b36 : Nat) (v5 : Value) (v8 : Value) (N38 : List Value → Heap → Prop) (v40 : Value) (v41 : Value) (v42 : Value) (v43 : Value) (l23 : List Value) (v57 : Value) (h : Heap) : Prop :=
 fieldAddrB False 1 (ptrTo b36) h fun v58 h =>
 loadA False 2 v58 h fun v59 h =>
 CallW Try.prog 22 [v5, v59] h fun v60 h =>
 extractB False 0 v60 h fun v61 h =>
 extractB False 1 v60 h fun v62 h =>
 fieldAddrB False 1 (ptrTo b36) h fun v63 h =>
 loadA False 2 v63 h fun v64 h =>
 CallW Try.prog 30 [v8, v64] h fun v65 h =>
 extractB False 0 v65 h fun v66 h =>
 extractB False 1 v65 h fun v67 h =>
 binB False Try.prog .eql 28 false false v61 v66 h fun v68 h =>
 GuardW (wantV v68 true) (fun K69 =>
 K69 v62 h) h fun v70 h =>
 GuardW (wantV v68 true) (fun K71 =>
 K71 v67 h) h fun v72 h =>
 GuardW (wantV v68 true) (fun K73 =>
 binB False Try.prog .eql 4 false false v70 v72 h K73) h fun v74 h =>
 pickB False v68 v74 (Value.bool false) h fun v75 h =>
 N38 [v40, v41, v42, v43, v43, (slot l23 18), (slot l23 19), (slot l23 20), (slot l23 21), (slot l23 22), (slot l23 23), (slot l23 24), (slot l23 25), (slot l23 26), (slot l23 27), (slot l23 28), (slot l23 29), (slot l23 30), v57, v57, v5, v58, v59, v60, v60, v61, v62, v61, v62, v8, v63, v64, v65, v65, v66, v67, v66, v67, v61, v66, v68, v68, v70, v72, v74, v75, v75] h

noncomputable def rs_6_1 (v5 : Value) (b36 : Nat) (v8 : Value) (N38 : List Value → Heap → Prop) (v40 : Value) (v41 : Value) (v42 : Value) (v43 : Value) (l23 : List Value) (h : Heap) : Prop :=
 RdK (some v5) h fun v44 h =>
 RdK (fieldAddrB none 1 (ptrTo b36) h fun v _ => some v) h fun v45 h =>
 RdK (loadA none 2 v45 h fun v _ => some v) h fun v46 h =>
 RdK (fieldAddrB none 3 (ptrTo b36) h fun v _ => some v) h fun v47 h =>
 RdK (load1 none v47 h fun v _ => some v) h fun v48 h =>
 RdK (some v8) h fun v49 h =>
 RdK (fieldAddrB none 1 (ptrTo b36) h fun v _ => some v) h fun v50 h =>
 RdK (loadA none 2 v50 h fun v _ => some v) h fun v51 h =>
 RdK (fieldAddrB none 3 (ptrTo b36) h fun v _ => some v) h fun v52 h =>
 RdK (load1 none v52 h fun v _ => some v) h fun v53 h =>
 CallW Try.prog 20 [v44, v46, v48] h fun v54 h =>
 SameK ((reV (some v8) v49) && ((reV (fieldAddrB none 1 (ptrTo b36) h fun v _ => some v) v50) && ((reV (loadA none 2 v50 h fun v _ => some v) v51) && ((reV (fieldAddrB none 3 (ptrTo b36) h fun v _ => some v) v52) && ((reV (load1 none v52 h fun v _ => some v) v53) && true))))) (CallW Try.prog 29 [v49, v51, v53] h fun v55 h =>
 RdK (binB none Try.prog .eql 36 false false v54 v55 h fun v _ => some v) h fun v56 h =>
 N38 [v40, v41, v42, v43, v43, v44, v45, v46, v47, v48, v54, v49, v50, v51, v52, v53, v55, v56, (slot l23 31), (slot l23 32), (slot l23 33), (slot l23 34), (slot l23 35), (slot l23 36), (slot l23 37), (slot l23 38), (slot l23 39), (slot l23 40), (slot l23 41), (slot l23 42), (slot l23 43), (slot l23 44), (slot l23 45), (slot l23 46), (slot l23 47), (slot l23 48), (slot l23 49), (slot l23 50), (slot l23 51), (slot l23 52), (slot l23 53), (slot l23 54), (slot l23 55), (slot l23 56), (slot l23 57), (slot l23 58), v56] h)

noncomputable def rs_6_2 (b36 : Nat) (v5 : Value) (v8 : Value) (N38 : List Value → Heap → Prop) (l23 : List Value) (h : Heap) : Prop :=
 fieldAddrB False 0 (ptrTo b36) h fun v40 h =>
 load1 False v40 h fun v41 h =>
 CallW Try.prog 18 [v41, (Value.int .i64 (3))] h fun v42 h =>
 binB False Try.prog .eql 3 true false v42 (Value.int .i64 (0)) h fun v43 h =>
 CondW v43 (
 rs_6_1 v5 b36 v8 N38 v40 v41 v42 v43 l23 h) (
 binB False Try.prog .eql 3 true false v42 (Value.int .i64 (1)) h fun v57 h =>
 CondW v57 (
 rs_6_0 b36 v5 v8 N38 v40 v41 v42 v43 l23 v57 h) (
 N38 [v40, v41, v42, v43, v43, (slot l23 18), (slot l23 19), (slot l23 20), (slot l23 21), (slot l23 22), (slot l23 23), (slot l23 24), (slot l23 25), (slot l23 26), (slot l23 27), (slot l23 28), (slot l23 29), (slot l23 30), v57, v57, (slot l23 33), (slot l23 34), (slot l23 35), (slot l23 36), (slot l23 37), (slot l23 38), (slot l23 39), (slot l23 40), (slot l23 41), (slot l23 42), (slot l23 43), (slot l23 44), (slot l23 45), (slot l23 46), (slot l23 47), (slot l23 48), (slot l23 49), (slot l23 50), (slot l23 51), (slot l23 52), (slot l23 53), (slot l23 54), (slot l23 55), (slot l23 56), (slot l23 57), (slot l23 58), (Value.bool true)] h))

noncomputable def rs_6_3 (l39 : List Value) (b36 : Nat) (v5 : Value) (v8 : Value) (a0 : Value) (N31 : List Value → Heap → Prop) (a2 : Value) (l23 : List Value) (v33 : Value) (v34 : Value) (h : Heap) (κ : Value → Heap → Prop) : Prop :=
 RdK (some (slot l39 46)) h fun v76 h =>
 RdK (unB none .not v76 h fun v _ => some v) h fun v77 h =>
 RdK (some v77) h fun v78 h =>
 GuardW (wantV v78 false) (fun K79 =>
 RdK (fieldAddrB none 1 (ptrTo b36) h fun v _ => some v) h K79) h fun v80 h =>
 GuardW (wantV v78 false) (fun K81 =>
 RdK (loadA none 2 v80 h fun v _ => some v) h K81) h fun v82 h =>
 GuardW (wantV v78 false) (fun K83 =>
 RdK (fieldAddrB none 3 (ptrTo b36) h fun v _ => some v) h K83) h fun v84 h =>
 GuardW (wantV v78 false) (fun K85 =>
 RdK (load1 none v84 h fun v _ => some v) h K85) h fun v86 h =>
 GuardW (wantV v78 false) (fun K87 =>
 RdK (fieldAddrB none 1 (ptrTo b36) h fun v _ => some v) h K87) h fun v88 h =>
 GuardW (wantV v78 false) (fun K89 =>
 RdK (loadA none 2 v88 h fun v _ => some v) h K89) h fun v90 h =>
 GuardW (wantV v78 false) (fun K91 =>
 RdK (fieldAddrB none 3 (ptrTo b36) h fun v _ => some v) h K91) h fun v92 h =>
 GuardW (wantV v78 false) (fun K93 =>
 RdK (load1 none v92 h fun v _ => some v) h K93) h fun v94 h =>
 GuardW (wantV v78 false) (fun K95 =>
 CallW Try.prog 21 [v82, v86] h fun v96 h =>
 SameK ((reG (wantV v78 false) (reV (fieldAddrB none 1 (ptrTo b36) h fun v _ => some v) v88)) && ((reG (wantV v78 false) (reV (loadA none 2 v88 h fun v _ => some v) v90)) && ((reG (wantV v78 false) (reV (fieldAddrB none 3 (ptrTo b36) h fun v _ => some v) v92)) && ((reG (wantV v78 false) (reV (load1 none v92 h fun v _ => some v) v94)) && true)))) (K95 v96 h)) h fun v97 h =>
 GuardW (wantV v78 false) (fun K98 =>
 CallW Try.prog 31 [v90, v94] h K98) h fun v99 h =>
 GuardW (wantV v78 false) (fun K100 =>
 RdK (binB none Try.prog .neq 4 false false v97 v99 h fun v _ => some v) h K100) h fun v101 h =>
 RdK (pickB none v78 (Value.bool true) v101 h fun v _ => some v) h fun v102 h =>
 RdK (some v102) h fun v103 h =>
 GuardW (wantV v103 false) (fun K104 =>
 RdK (some v5) h K104) h fun v105 h =>
 GuardW (wantV v103 false) (fun K106 =>
 RdK (fieldAddrB none 1 (ptrTo b36) h fun v _ => some v) h K106) h fun v107 h =>
 GuardW (wantV v103 false) (fun K108 =>
 RdK (loadA none 2 v107 h fun v _ => some v) h K108) h fun v109 h =>
 GuardW (wantV v103 false) (fun K110 =>
 RdK (some v8) h K110) h fun v111 h =>
 GuardW (wantV v103 false) (fun K112 =>
 RdK (fieldAddrB none 1 (ptrTo b36) h fun v _ => some v) h K112) h fun v113 h =>
 GuardW (wantV v103 false) (fun K114 =>
 RdK (loadA none 2 v113 h fun v _ => some v) h K114) h fun v115 h =>
 GuardW (wantV v103 false) (fun K116 =>
 CallW Try.prog 32 [v105, v109] h fun v117 h =>
 SameK ((reG (wantV v103 false) (reV (some v8) v111)) && ((reG (wantV v103 false) (reV (fieldAddrB none 1 (ptrTo b36) h fun v _ => some v) v113)) && ((reG (wantV v103 false) (reV (loadA none 2 v113 h fun v _ => some v) v115)) && true))) (K116 v117 h)) h fun v118 h =>
 GuardW (wantV v103 false) (fun K119 =>
 CallW Try.prog 33 [v111, v115] h K119) h fun v120 h =>
 GuardW (wantV v103 false) (fun K121 =>
 RdK (binB none Try.prog .neq 4 false false v118 v120 h fun v _ => some v) h K121) h fun v122 h =>
 RdK (pickB none v103 (Value.bool true) v122 h fun v _ => some v) h fun v123 h =>
 RdK (some v123) h fun v124 h =>
 GuardW (wantV v124 false) (fun K125 =>
 RdK (some v5) h K125) h fun v126 h =>
 GuardW (wantV v124 false) (fun K127 =>
 RdK (some v8) h K127) h fun v128 h =>
 GuardW (wantV v124 false) (fun K129 =>
 CallW Try.prog 23 [v126] h fun v130 h =>
 SameK ((reG (wantV v124 false) (reV (some v8) v128)) && true) (K129 v130 h)) h fun v131 h =>
 GuardW (wantV v124 false) (fun K132 =>
 CallW Try.prog 35 [v128] h K132) h fun v133 h =>
 GuardW (wantV v124 false) (fun K134 =>
 CallW Try.prog 34 [v131, v133] h K134) h fun v135 h =>
 GuardW (wantV v124 false) (fun K136 =>
 RdK (unB none .not v135 h fun v _ => some v) h K136) h fun v137 h =>
 RdK (pickB none v124 (Value.bool true) v137 h fun v _ => some v) h fun v138 h =>
 RdK (some v138) h fun v139 h =>
 GuardW (wantV v139 false) (fun K140 =>
 RdK (some v5) h K140) h fun v141 h =>
 GuardW (wantV v139 false) (fun K142 =>
 RdK (some v8) h K142) h fun v143 h =>
 GuardW (wantV v139 false) (fun K144 =>
 CallW Try.prog 24 [v141] h fun v145 h =>
 SameK ((reG (wantV v139 false) (reV (some v8) v143)) && true) (K144 v145 h)) h fun v146 h =>
 GuardW (wantV v139 false) (fun K147 =>
 CallW Try.prog 36 [v143] h K147) h fun v148 h =>
 GuardW (wantV v139 false) (fun K149 =>
 RdK (binB none Try.prog .neq 3 false false v146 v148 h fun v _ => some v) h K149) h fun v150 h =>
 RdK (pickB none v139 (Value.bool true) v150 h fun v _ => some v) h fun v151 h =>
 RdK (some v151) h fun v152 h =>
 GuardW (wantV v152 false) (fun K153 =>
 RdK (some v5) h K153) h fun v154 h =>
 GuardW (wantV v152 false) (fun K155 =>
 RdK (some v8) h K155) h fun v156 h =>
 GuardW (wantV v152 false) (fun K157 =>
 RdK (nilB none v156 h fun v _ => some v) h K157) h fun v158 h =>
 GuardW (wantV v152 false) (fun K159 =>
 RdK (fieldAddrB none 1 v158 h fun v _ => some v) h K159) h fun v160 h =>
 GuardW (wantV v152 false) (fun K161 =>
 RdK (load1 none v160 h fun v _ => some v) h K161) h fun v162 h =>
 GuardW (wantV v152 false) (fun K163 =>
 RdK (lenSli none v162 h fun v _ => some v) h K163) h fun v164 h =>
 GuardW (wantV v152 false) (fun K165 =>
 CallW Try.prog 27 [v154] h fun v166 h =>
 SameK ((reG (wantV v152 false) (reV (some v8) v156)) && ((reG (wantV v152 false) (reV (nilB none v156 h fun v _ => some v) v158)) && ((reG (wantV v152 false) (reV (fieldAddrB none 1 v158 h fun v _ => some v) v160)) && ((reG (wantV v152 false) (reV (load1 none v160 h fun v _ => some v) v162)) && ((reG (wantV v152 false) (reV (lenSli none v162 h fun v _ => some v) v164)) && true))))) (K165 v166 h)) h fun v167 h =>
 GuardW (wantV v152 false) (fun K168 =>
 RdK (binB none Try.prog .neq 3 false false v167 v164 h fun v _ => some v) h K168) h fun v169 h =>
 RdK (pickB none v152 (Value.bool true) v169 h fun v _ => some v) h fun v170 h =>
 RdK (some v170) h fun v171 h =>
 GuardW (wantV v171 false) (fun K172 =>
 RdK (some v5) h K172) h fun v173 h =>
 GuardW (wantV v171 false) (fun K174 =>
 RdK (some a0) h K174) h fun v175 h =>
 GuardW (wantV v171 false) (fun K176 =>
 CallW Try.prog 37 [v173] h fun v177 h =>
 SameK ((reG (wantV v171 false) (reV (some a0) v175)) && true) (K176 v177 h)) h fun v178 h =>
 GuardW (wantV v171 false) (fun K179 =>
 RdK (binB none Try.prog .neq 3 false false v178 v175 h fun v _ => some v) h K179) h fun v180 h =>
 RdK (pickB none v171 (Value.bool true) v180 h fun v _ => some v) h fun v181 h =>
 CondW v181 (
 κ (Value.bool false) h) (
 N31 [a2, (slot l23 120), v33, v34, (ptrTo b36), (slot l39 0), (slot l39 1), (slot l39 2), (slot l39 3), (slot l39 4), (slot l39 5), (slot l39 6), (slot l39 7), (slot l39 8), (slot l39 9), (slot l39 10), (slot l39 11), (slot l39 12), (slot l39 13), (slot l39 14), (slot l39 15), (slot l39 16), (slot l39 17), (slot l39 18), (slot l39 19), (slot l39 20), (slot l39 21), (slot l39 22), (slot l39 23), (slot l39 24), (slot l39 25), (slot l39 26), (slot l39 27), (slot l39 28), (slot l39 29), (slot l39 30), (slot l39 31), (slot l39 32), (slot l39 33), (slot l39 34), (slot l39 35), (slot l39 36), (slot l39 37), (slot l39 38), (slot l39 39), (slot l39 40), (slot l39 41), (slot l39 42), (slot l39 43), (slot l39 44), (slot l39 45), (slot l39 46), v76, v77, v78, v80, v82, v84, v86, v97, v88, v90, v92, v94, v99, v101, v102, v103, v105, v107, v109, v118, v111, v113, v115, v120, v122, v123, v124, v126, v131, v128, v133, v135, v137, v138, v139, v141, v146, v143, v148, v150, v151, v152, v154, v167, v156, v158, v160, v162, v164, v169, v170, v171, v173, v178, v175, v180, v181, (slot l23 117)] h)

noncomputable def rs_6_4 (a2 : Value) (l23 : List Value) (v5 : Value) (v8 : Value) (a0 : Value) (N31 : List Value → Heap → Prop) (h : Heap) (κ : Value → Heap → Prop) : Prop :=
 indexAddrS False 4 a2 (slot l23 120) h fun v33 h =>
 loadA False 4 v33 h fun v34 h =>
 cellsK False [(Value.int .i64 (0)), (Value.int .i64 (0)), (Value.int .i64 (0)), (Value.int .i64 (0))] 41 false fun o35 => newBlock False o35 h fun b36 h =>
 storeV False 4 (ptrTo b36) v34 h fun v37 h =>
 JoinR (fun N38 =>
 rs_6_2 b36 v5 v8 N38 l23 h) fun l39 h =>
 rs_6_3 l39 b36 v5 v8 a0 N31 a2 l23 v33 v34 h κ

noncomputable def rs_6_5 (a2 : Value) (l23 : List Value) (v8 : Value) (v5 : Value) (a0 : Value) (N22 : List Value → Heap → Prop) (h : Heap) (κ : Value → Heap → Prop) : Prop :=
 lenSli False a2 h fun v24 h =>
 binB False Try.prog .lss 3 false false (slot l23 120) v24 h fun v25 h =>
 GuardW (wantV v25 true) (fun K26 =>
 K26 v8 h) h fun v27 h =>
 GuardW (wantV v25 true) (fun K28 =>
 binB False Try.prog .neq 54 true false v27 (Value.pointer none) h K28) h fun v29 h =>
 pickB False v25 v29 (Value.bool false) h fun v30 h =>
 CondW v30 (
 JoinR (fun N31 =>
 rs_6_4 a2 l23 v5 v8 a0 N31 h κ) fun l32 h =>
 binB False Try.prog .add 3 true false (slot l23 120) (Value.int .i64 (1)) h fun v182 h =>
 N22 [(slot l23 120), a2, v24, v25, v25, v27, v29, v30, (slot l32 0), (slot l32 1), (slot l32 2), (slot l32 3), (slot l32 4), (slot l32 5), (slot l32 6), (slot l32 7), (slot l32 8), (slot l32 9), (slot l32 10), (slot l32 11), (slot l32 12), (slot l32 13), (slot l32 14), (slot l32 15), (slot l32 16), (slot l32 17), (slot l32 18), (slot l32 19), (slot l32 20), (slot l32 21), (slot l32 22), (slot l32 23), (slot l32 24), (slot l32 25), (slot l32 26), (slot l32 27), (slot l32 28), (slot l32 29), (slot l32 30), (slot l32 31), (slot l32 32), (slot l32 33), (slot l32 34), (slot l32 35), (slot l32 36), (slot l32 37), (slot l32 38), (slot l32 39), (slot l32 40), (slot l32 41), (slot l32 42), (slot l32 43), (slot l32 44), (slot l32 45), (slot l32 46), (slot l32 47), (slot l32 48), (slot l32 49), (slot l32 50), (slot l32 51), (slot l32 52), (slot l32 53), (slot l32 54), (slot l32 55), (slot l32 56), (slot l32 57), (slot l32 58), (slot l32 59), (slot l32 60), (slot l32 61), (slot l32 62), (slot l32 63), (slot l32 64), (slot l32 65), (slot l32 66), (slot l32 67), (slot l32 68), (slot l32 69), (slot l32 70), (slot l32 71), (slot l32 72), (slot l32 73), (slot l32 74), (slot l32 75), (slot l32 76), (slot l32 77), (slot l32 78), (slot l32 79), (slot l32 80), (slot l32 81), (slot l32 82), (slot l32 83), (slot l32 84), (slot l32 85), (slot l32 86), (slot l32 87), (slot l32 88), (slot l32 89), (slot l32 90), (slot l32 91), (slot l32 92), (slot l32 93), (slot l32 94), (slot l32 95), (slot l32 96), (slot l32 97), (slot l32 98), (slot l32 99), (slot l32 100), (slot l32 101), (slot l32 102), (slot l32 103), (slot l32 104), (slot l32 105), (slot l32 106), (slot l32 107), (slot l32 108), (slot l32 109), (slot l23 120), v182, v182] h) (
 κ (Value.bool true) h)

noncomputable def rs_6_6 (a0 : Value) (a1 : Value) (a2 : Value) (h : Heap) (κ : Value → Heap → Prop) : Prop :=
 CallW Try.prog 19 [a0, a1] h fun v4 h =>
 extractB False 0 v4 h fun v5 h =>
 extractB False 1 v4 h fun v6 h =>
 CallW Try.prog 28 [a0, a1] h fun v7 h =>
 extractB False 0 v7 h fun v8 h =>
 extractB False 1 v7 h fun v9 h =>
 binB False Try.prog .neq 36 false false v6 v9 h fun v10 h =>
 GuardW (wantV v10 false) (fun K11 =>
 K11 v5 h) h fun v12 h =>
 GuardW (wantV v10 false) (fun K13 =>
 binB False Try.prog .eql 35 true false v12 (Value.pointer none) h K13) h fun v14 h =>
 GuardW (wantV v10 false) (fun K15 =>
 K15 v8 h) h fun v16 h =>
 GuardW (wantV v10 false) (fun K17 =>
 binB False Try.prog .eql 54 true false v16 (Value.pointer none) h K17) h fun v18 h =>
 GuardW (wantV v10 false) (fun K19 =>
 binB False Try.prog .neq 4 false false v14 v18 h K19) h fun v20 h =>
 pickB False v10 (Value.bool true) v20 h fun v21 h =>
 CondW v21 (
 κ (Value.bool false) h) (
 LoopR [undef, undef, undef, undef, undef, undef, undef, undef, undef, undef, undef, undef, undef, undef, undef, undef, undef, undef, undef, undef, undef, undef, undef, undef, undef, undef, undef, undef, undef, undef, undef, undef, undef, undef, undef, undef, undef, undef, undef, undef, undef, undef, undef, undef, undef, undef, undef, undef, undef, undef, undef, undef, undef, undef, undef, undef, undef, undef, undef, undef, undef, undef, undef, undef, undef, undef, undef, undef, undef, undef, undef, undef, undef, undef, undef, undef, undef, undef, undef, undef, undef, undef, undef, undef, undef, undef, undef, undef, undef, undef, undef, undef, undef, undef, undef, undef, undef, undef, undef, undef, undef, undef, undef, undef, undef, undef, undef, undef, undef, undef, undef, undef, undef, undef, undef, undef, undef, (Value.bool false), undef, undef, (Value.int .i64 (0))] h fun l23 h N22 =>
 rs_6_5 a2 l23 v8 v5 a0 N22 h κ)

/-- latchstring/latchstringlaw18.PassScript -/
theorem rs_6 (a0 a1 a2 : Value) (h : Heap) (κ : Value → Heap → Prop) : BodyW Try.prog 6 [a0, a1, a2] h κ = (
 CallW Try.prog 17 [] h fun v0 h =>
 unB False .not v0 h fun v1 h =>
 CondW v1 (
 κ (Value.bool false) h) (
 lenSli False a2 h fun v2 h =>
 binB False Try.prog .gtr 3 true false v2 (Value.int .i64 (60)) h fun v3 h =>
 CondW v3 (
 κ (Value.bool true) h) (
 rs_6_6 a0 a1 a2 h κ))) := by kernel_rfl

noncomputable def rs_18_0 (a0 : Value) (a1 : Value) (h : Heap) (κ : Value → Heap → Prop) : Prop :=
 binB False Try.prog .rem 3 false false a0 a1 h fun v1 h =>
 JoinR (fun N2 =>
 binB False Try.prog .lss 3 true false v1 (Value.int .i64 (0)) h fun v4 h =>
 CondW v4 (
 binB False Try.prog .add 3 false false v1 a1 h fun v5 h =>
 N2 [v1, v4, v1, a1, v5, v5] h) (
 N2 [v1, v4, undef, undef, undef, v1] h)) fun l3 h =>
 κ (slot l3 5) h

/-- latchstring/latchstringkit.Pick -/
theorem rs_18 (a0 a1 : Value) (h : Heap) (κ : Value → Heap → Prop) : BodyW Try.prog 18 [a0, a1] h κ = (
 binB False Try.prog .lss 3 true false a1 (Value.int .i64 (1)) h fun v0 h =>
 CondW v0 (
 κ (Value.int .i64 (0)) h) (
 rs_18_0 a0 a1 h κ)) := by kernel_rfl

/-- latchstring/pass.New -/
theorem rs_19 (a0 a1 : Value) (h : Heap) (κ : Value → Heap → Prop) : BodyW Try.prog 19 [a0, a1] h κ = (
 binB False Try.prog .geq 3 true false a0 (Value.int .i64 (0)) h fun v0 h =>
 GuardW (wantV v0 false) (fun K1 =>
 K1 a1 h) h fun v2 h =>
 GuardW (wantV v0 false) (fun K3 =>
 binB False Try.prog .lss 3 true false v2 (Value.int .i64 (0)) h K3) h fun v4 h =>
 pickB False v0 (Value.bool true) v4 h fun v5 h =>
 GuardW (wantV v5 false) (fun K6 =>
 K6 a1 h) h fun v7 h =>
 GuardW (wantV v5 false) (fun K8 =>
 binB False Try.prog .gtr 3 true false v7 (Value.int .i64 (8)) h K8) h fun v9 h =>
 pickB False v5 (Value.bool true) v9 h fun v10 h =>
 CondW v10 (
 κ (Value.tuple (Array.mk [(Value.pointer none), (Value.int .i64 (2))])) h) (
 fillB False [] [] [(Value.slice none 0 0)] fun cs11 =>
 cellsK False (Value.cells (Value.agg (Array.mk cs11))).toList 102 false fun o12 => newBlock False o12 h fun b13 h =>
 fillB False [(0, 1), (1, 1), (2, 1)] [(ptrTo b13), a0, a1] [(Value.pointer none), (Value.int .i64 (0)), (Value.int .i64 (0))] fun cs14 =>
 cellsK False (Value.cells (Value.agg (Array.mk cs14))).toList 104 false fun o15 => newBlock False o15 h fun b16 h =>
 κ (Value.tuple (Array.mk [(ptrTo b16), (Value.int .i64 (0))])) h)) := by kernel_rfl

noncomputable def rs_20_0 (a0 : Value) (b1 : Nat) (a2 : Value) (h : Heap) (κ : Value → Heap → Prop) : Prop :=
 RdK (some a0) h fun v10 h =>
 RdK (nilB none v10 h fun v _ => some v) h fun v11 h =>
 RdK (fieldAddrB none 0 v11 h fun v _ => some v) h fun v12 h =>
 RdK (load1 none v12 h fun v _ => some v) h fun v13 h =>
 RdK (some a0) h fun v14 h =>
 RdK (nilB none v14 h fun v _ => some v) h fun v15 h =>
 RdK (fieldAddrB none 0 v15 h fun v _ => some v) h fun v16 h =>
 RdK (load1 none v16 h fun v _ => some v) h fun v17 h =>
 RdK (nilB none v17 h fun v _ => some v) h fun v18 h =>
 RdK (fieldAddrB none 0 v18 h fun v _ => some v) h fun v19 h =>
 RdK (load1 none v19 h fun v _ => some v) h fun v20 h =>
 RdK (some a0) h fun v21 h =>
 RdK (nilB none v21 h fun v _ => some v) h fun v22 h =>
 RdK (fieldAddrB none 1 v22 h fun v _ => some v) h fun v23 h =>
 RdK (load1 none v23 h fun v _ => some v) h fun v24 h =>
 RdK (loadA none 2 (ptrTo b1) h fun v _ => some v) h fun v25 h =>
 RdK (some a2) h fun v26 h =>
 RdK (fillB none [(0, 1), (1, 2), (3, 1)] [v24, v25, v26] [(Value.int .i64 (0)), (Value.int .i64 (0)), (Value.int .i64 (0)), (Value.int .i64 (0))] fun cs => some (Value.agg (Array.mk cs))) h fun v27 h =>
 CallW Try.prog 44 [v20, v27] h fun v28 h =>
 SameK ((reV (some a0) v10) && ((reV (nilB none v10 h fun v _ => some v) v11) && ((reV (fieldAddrB none 0 v11 h fun v _ => some v) v12) && ((reV (load1 none v12 h fun v _ => some v) v13) && true)))) (RdK (nilB none v13 h fun v _ => some v) h fun v29 h =>
 RdK (fieldAddrB none 0 v29 h fun v _ => some v) h fun v30 h =>
 storeV False 1 v30 v28 h fun v31 h =>
 κ (Value.int .i64 (0)) h)

noncomputable def rs_20_1 (b1 : Nat) (a0 : Value) (a2 : Value) (h : Heap) (κ : Value → Heap → Prop) : Prop :=
 loadA False 2 (ptrTo b1) h fun v6 h =>
 CallW Try.prog 32 [a0, v6] h fun v7 h =>
 CondW v7 (
 κ (Value.int .i64 (4)) h) (
 CallW Try.prog 24 [a0] h fun v8 h =>
 binB False Try.prog .eql 3 true false v8 (Value.int .i64 (0)) h fun v9 h =>
 CondW v9 (
 κ (Value.int .i64 (8)) h) (
 rs_20_0 a0 b1 a2 h κ))

/-- (*latchstring/pass.Pool).Put -/
theorem rs_20 (a0 a1 a2 : Value) (h : Heap) (κ : Value → Heap → Prop) : BodyW Try.prog 20 [a0, a1, a2] h κ = (
 cellsK False (Value.cells a1).toList 27 false fun o0 => newBlock False o0 h fun b1 h =>
 binB False Try.prog .eql 35 true false a0 (Value.pointer none) h fun v2 h =>
 CondW v2 (
 κ (Value.int .i64 (1)) h) (
 loadA False 2 (ptrTo b1) h fun v3 h =>
 CallW Try.prog 21 [v3, a2] h fun v4 h =>
 unB False .not v4 h fun v5 h =>
 CondW v5 (
 κ (Value.int .i64 (2)) h) (
 rs_20_1 b1 a0 a2 h κ))) := by kernel_rfl

/-- latchstring/pass.Eligible -/
theorem rs_21 (a0 a1 : Value) (h : Heap) (κ : Value → Heap → Prop) : BodyW Try.prog 21 [a0, a1] h κ = (
 cellsK False (Value.cells a0).toList 27 false fun o0 => newBlock False o0 h fun b1 h =>
 loadA False 2 (ptrTo b1) h fun v2 h =>
 CallW Try.prog 68 [v2] h fun v3 h =>
 binB False Try.prog .eql 3 true false v3 (Value.int .i64 (0)) h fun v4 h =>
 GuardW (wantV v4 false) (fun K5 =>
 K5 v3 h) h fun v6 h =>
 GuardW (wantV v4 false) (fun K7 =>
 binB False Try.prog .eql 3 true false v6 (Value.int .i64 (1)) h K7) h fun v8 h =>
 pickB False v4 (Value.bool true) v8 h fun v9 h =>
 GuardW (wantV v9 true) (fun K10 =>
 K10 a1 h) h fun v11 h =>
 GuardW (wantV v9 true) (fun K12 =>
 binB False Try.prog .eql 28 true false v11 (Value.int .i64 (1)) h K12) h fun v13 h =>
 GuardW (wantV v9 true) (fun K14 =>
 K14 v13 h) h fun v15 h =>
 GuardW (wantV v15 false) (fun K16 =>
 K16 a1 h) h fun v17 h =>
 GuardW (wantV v15 false) (fun K18 =>
 binB False Try.prog .eql 28 true false v17 (Value.int .i64 (2)) h K18) h fun v19 h =>
 GuardW (wantV v9 true) (fun K20 =>
 pickB False v15 (Value.bool true) v19 h K20) h fun v21 h =>
 GuardW (wantV v9 true) (fun K22 =>
 K22 v21 h) h fun v23 h =>
 GuardW (wantV v23 false) (fun K24 =>
 K24 a1 h) h fun v25 h =>
 GuardW (wantV v23 false) (fun K26 =>
 binB False Try.prog .eql 28 true false v25 (Value.int .i64 (3)) h K26) h fun v27 h =>
 GuardW (wantV v9 true) (fun K28 =>
 pickB False v23 (Value.bool true) v27 h K28) h fun v29 h =>
 pickB False v9 v29 (Value.bool false) h fun v30 h =>
 κ v30 h) := by kernel_rfl

noncomputable def rs_22_0 (a0 : Value) (b1 : Nat) (h : Heap) (κ : Value → Heap → Prop) : Prop :=
 RdK (some a0) h fun v12 h =>
 RdK (nilB none v12 h fun v _ => some v) h fun v13 h =>
 RdK (fieldAddrB none 0 v13 h fun v _ => some v) h fun v14 h =>
 RdK (load1 none v14 h fun v _ => some v) h fun v15 h =>
 RdK (nilB none v15 h fun v _ => some v) h fun v16 h =>
 RdK (fieldAddrB none 0 v16 h fun v _ => some v) h fun v17 h =>
 RdK (load1 none v17 h fun v _ => some v) h fun v18 h =>
 RdK (loadA none 2 (ptrTo b1) h fun v _ => some v) h fun v19 h =>
 CallW Try.prog 42 [v18, v19] h fun v20 h =>
 RdK (some a0) h fun v21 h =>
 RdK (nilB none v21 h fun v _ => some v) h fun v22 h =>
 RdK (fieldAddrB none 0 v22 h fun v _ => some v) h fun v23 h =>
 RdK (load1 none v23 h fun v _ => some v) h fun v24 h =>
 RdK (some a0) h fun v25 h =>
 RdK (nilB none v25 h fun v _ => some v) h fun v26 h =>
 RdK (fieldAddrB none 0 v26 h fun v _ => some v) h fun v27 h =>
 RdK (load1 none v27 h fun v _ => some v) h fun v28 h =>
 RdK (nilB none v28 h fun v _ => some v) h fun v29 h =>
 RdK (fieldAddrB none 0 v29 h fun v _ => some v) h fun v30 h =>
 RdK (load1 none v30 h fun v _ => some v) h fun v31 h =>
 RdK (loadA none 2 (ptrTo b1) h fun v _ => some v) h fun v32 h =>
 CallW Try.prog 48 [v31, v32] h fun v33 h =>
 SameK ((reV (some a0) v21) && ((reV (nilB none v21 h fun v _ => some v) v22) && ((reV (fieldAddrB none 0 v22 h fun v _ => some v) v23) && ((reV (load1 none v23 h fun v _ => some v) v24) && true)))) (RdK (nilB none v24 h fun v _ => some v) h fun v34 h =>
 RdK (fieldAddrB none 0 v34 h fun v _ => some v) h fun v35 h =>
 storeV False 1 v35 v33 h fun v36 h =>
 κ (Value.tuple (Array.mk [v20, (Value.bool true)])) h)

/-- (*latchstring/pass.Pool).Take -/
theorem rs_22 (a0 a1 : Value) (h : Heap) (κ : Value → Heap → Prop) : BodyW Try.prog 22 [a0, a1] h κ = (
 cellsK False (Value.cells a1).toList 27 false fun o0 => newBlock False o0 h fun b1 h =>
 binB False Try.prog .eql 35 true false a0 (Value.pointer none) h fun v2 h =>
 GuardW (wantV v2 false) (fun K3 =>
 K3 a0 h) h fun v4 h =>
 GuardW (wantV v2 false) (fun K5 =>
 loadA False 2 (ptrTo b1) h K5) h fun v6 h =>
 GuardW (wantV v2 false) (fun K7 =>
 CallW Try.prog 32 [v4, v6] h K7) h fun v8 h =>
 GuardW (wantV v2 false) (fun K9 =>
 unB False .not v8 h K9) h fun v10 h =>
 pickB False v2 (Value.bool true) v10 h fun v11 h =>
 CondW v11 (
 κ (Value.tuple (Array.mk [(Value.int .i64 (0)), (Value.bool false)])) h) (
 rs_22_0 a0 b1 h κ)) := by kernel_rfl

/-- (*latchstring/pass.Pool).List -/
theorem rs_23 (a0 : Value) (h : Heap) (κ : Value → Heap → Prop) : BodyW Try.prog 23 [a0] h κ = (
 binB False Try.prog .eql 35 true false a0 (Value.pointer none) h fun v0 h =>
 CondW v0 (
 κ (Value.slice none 0 0) h) (
 nilB False a0 h fun v1 h =>
 fieldAddrB False 0 v1 h fun v2 h =>
 load1 False v2 h fun v3 h =>
 CallW Try.prog 69 [v3] h fun v4 h =>
 κ v4 h)) := by kernel_rfl

noncomputable def rs_24_0 (a0 : Value) (h : Heap) (κ : Value → Heap → Prop) : Prop :=
 RdK (some a0) h fun v1 h =>
 RdK (nilB none v1 h fun v _ => some v) h fun v2 h =>
 RdK (fieldAddrB none 2 v2 h fun v _ => some v) h fun v3 h =>
 RdK (load1 none v3 h fun v _ => some v) h fun v4 h =>
 RdK (some a0) h fun v5 h =>
 RdK (nilB none v5 h fun v _ => some v) h fun v6 h =>
 RdK (fieldAddrB none 0 v6 h fun v _ => some v) h fun v7 h =>
 RdK (load1 none v7 h fun v _ => some v) h fun v8 h =>
 RdK (nilB none v8 h fun v _ => some v) h fun v9 h =>
 RdK (fieldAddrB none 0 v9 h fun v _ => some v) h fun v10 h =>
 RdK (load1 none v10 h fun v _ => some v) h fun v11 h =>
 RdK (lenSli none v11 h fun v _ => some v) h fun v12 h =>
 RdK (binB none Try.prog .sub 3 false false v4 v12 h fun v _ => some v) h fun v13 h =>
 κ v13 h

/-- (*latchstring/pass.Pool).Room -/
theorem rs_24 (a0 : Value) (h : Heap) (κ : Value → Heap → Prop) : BodyW Try.prog 24 [a0] h κ = (
 binB False Try.prog .eql 35 true false a0 (Value.pointer none) h fun v0 h =>
 CondW v0 (
 κ (Value.int .i64 (0)) h) (
 rs_24_0 a0 h κ)) := by kernel_rfl

/-- latchstring/latchstringref02.Compare -/
theorem rs_25 (a0 a1 : Value) (h : Heap) (κ : Value → Heap → Prop) : BodyW Try.prog 25 [a0, a1] h κ = (
 cellsK False (Value.cells a0).toList 27 false fun o0 => newBlock False o0 h fun b1 h =>
 cellsK False (Value.cells a1).toList 27 false fun o2 => newBlock False o2 h fun b3 h =>
 fieldAddrB False 0 (ptrTo b1) h fun v4 h =>
 load1 False v4 h fun v5 h =>
 fieldAddrB False 0 (ptrTo b3) h fun v6 h =>
 load1 False v6 h fun v7 h =>
 binB False Try.prog .lss 3 false false v5 v7 h fun v8 h =>
 GuardW (wantV v8 false) (fun K9 =>
 fieldAddrB False 0 (ptrTo b1) h K9) h fun v10 h =>
 GuardW (wantV v8 false) (fun K11 =>
 load1 False v10 h K11) h fun v12 h =>
 GuardW (wantV v8 false) (fun K13 =>
 fieldAddrB False 0 (ptrTo b3) h K13) h fun v14 h =>
 GuardW (wantV v8 false) (fun K15 =>
 load1 False v14 h K15) h fun v16 h =>
 GuardW (wantV v8 false) (fun K17 =>
 binB False Try.prog .eql 3 false false v12 v16 h K17) h fun v18 h =>
 GuardW (wantV v8 false) (fun K19 =>
 K19 v18 h) h fun v20 h =>
 GuardW (wantV v20 true) (fun K21 =>
 fieldAddrB False 1 (ptrTo b1) h K21) h fun v22 h =>
 GuardW (wantV v20 true) (fun K23 =>
 load1 False v22 h K23) h fun v24 h =>
 GuardW (wantV v20 true) (fun K25 =>
 fieldAddrB False 1 (ptrTo b3) h K25) h fun v26 h =>
 GuardW (wantV v20 true) (fun K27 =>
 load1 False v26 h K27) h fun v28 h =>
 GuardW (wantV v20 true) (fun K29 =>
 binB False Try.prog .lss 3 false false v24 v28 h K29) h fun v30 h =>
 GuardW (wantV v8 false) (fun K31 =>
 pickB False v20 v30 (Value.bool false) h K31) h fun v32 h =>
 pickB False v8 (Value.bool true) v32 h fun v33 h =>
 CondW v33 (
 κ (Value.int .i64 (-1)) h) (
 loadA False 2 (ptrTo b1) h fun v34 h =>
 loadA False 2 (ptrTo b3) h fun v35 h =>
 binB False Try.prog .eql 27 false false v34 v35 h fun v36 h =>
 CondW v36 (
 κ (Value.int .i64 (0)) h) (
 κ (Value.int .i64 (1)) h))) := by kernel_rfl

/-- latchstring/latchstringkit.T -/
theorem rs_26 (a0 : Value) (h : Heap) (κ : Value → Heap → Prop) : BodyW Try.prog 26 [a0] h κ = (
 cellsK False [(Value.int .i64 (0)), (Value.int .i64 (0))] 27 false fun o0 => newBlock False o0 h fun b1 h =>
 fillB False [(0, 1), (1, 1)] [a0, (Value.int .i64 (-1))] [(Value.int .i64 (0)), (Value.int .i64 (0))] fun cs2 =>
 storeV False 2 (ptrTo b1) (Value.agg (Array.mk cs2)) h fun v3 h =>
 loadA False 2 (ptrTo b1) h fun v4 _ => κ v4 h) := by kernel_rfl

/-- (*latchstring/pass.Pool).Len -/
theorem rs_27 (a0 : Value) (h : Heap) (κ : Value → Heap → Prop) : BodyW Try.prog 27 [a0] h κ = (
 CallW Try.prog 23 [a0] h fun v0 h =>
 lenSli False v0 h fun v1 h =>
 κ v1 h) := by kernel_rfl

/-- latchstring/latchstringref18.New -/
theorem rs_28 (a0 a1 : Value) (h : Heap) (κ : Value → Heap → Prop) : BodyW Try.prog 28 [a0, a1] h κ = (
 binB False Try.prog .geq 3 true false a0 (Value.int .i64 (0)) h fun v0 h =>
 GuardW (wantV v0 false) (fun K1 =>
 K1 a1 h) h fun v2 h =>
 GuardW (wantV v0 false) (fun K3 =>
 binB False Try.prog .lss 3 true false v2 (Value.int .i64 (0)) h K3) h fun v4 h =>
 pickB False v0 (Value.bool true) v4 h fun v5 h =>
 GuardW (wantV v5 false) (fun K6 =>
 K6 a1 h) h fun v7 h =>
 GuardW (wantV v5 false) (fun K8 =>
 binB False Try.prog .gtr 3 true false v7 (Value.int .i64 (8)) h K8) h fun v9 h =>
 pickB False v5 (Value.bool true) v9 h fun v10 h =>
 CondW v10 (
 κ (Value.tuple (Array.mk [(Value.pointer none), (Value.int .i64 (2))])) h) (
 fillB False [(0, 1), (2, 1)] [a0, a1] [(Value.int .i64 (0)), (Value.slice none 0 0), (Value.int .i64 (0))] fun cs11 =>
 cellsK False (Value.cells (Value.agg (Array.mk cs11))).toList 60 false fun o12 => newBlock False o12 h fun b13 h =>
 κ (Value.tuple (Array.mk [(ptrTo b13), (Value.int .i64 (0))])) h)) := by kernel_rfl

noncomputable def rs_29_0 (a0 : Value) (b1 : Nat) (a2 : Value) (h : Heap) (κ : Value → Heap → Prop) : Prop :=
 RdK (some a0) h fun v9 h =>
 RdK (some a0) h fun v10 h =>
 RdK (nilB none v10 h fun v _ => some v) h fun v11 h =>
 RdK (fieldAddrB none 1 v11 h fun v _ => some v) h fun v12 h =>
 RdK (load1 none v12 h fun v _ => some v) h fun v13 h =>
 RdK (some a0) h fun v14 h =>
 RdK (nilB none v14 h fun v _ => some v) h fun v15 h =>
 RdK (fieldAddrB none 0 v15 h fun v _ => some v) h fun v16 h =>
 RdK (load1 none v16 h fun v _ => some v) h fun v17 h =>
 RdK (loadA none 2 (ptrTo b1) h fun v _ => some v) h fun v18 h =>
 RdK (some a2) h fun v19 h =>
 RdK (fillB none [(0, 1), (1, 2), (3, 1)] [v17, v18, v19] [(Value.int .i64 (0)), (Value.int .i64 (0)), (Value.int .i64 (0)), (Value.int .i64 (0))] fun cs => some (Value.agg (Array.mk cs))) h fun v20 h =>
 CallW Try.prog 51 [v13, v20] h fun v21 h =>
 SameK ((reV (some a0) v9) && true) (RdK (nilB none v9 h fun v _ => some v) h fun v22 h =>
 RdK (fieldAddrB none 1 v22 h fun v _ => some v) h fun v23 h =>
 storeV False 1 v23 v21 h fun v24 h =>
 κ (Value.int .i64 (0)) h)

noncomputable def rs_29_1 (b1 : Nat) (a0 : Value) (a2 : Value) (h : Heap) (κ : Value → Heap → Prop) : Prop :=
 loadA False 2 (ptrTo b1) h fun v5 h =>
 CallW Try.prog 33 [a0, v5] h fun v6 h =>
 CondW v6 (
 κ (Value.int .i64 (4)) h) (
 CallW Try.prog 36 [a0] h fun v7 h =>
 binB False Try.prog .lss 3 true false v7 (Value.int .i64 (1)) h fun v8 h =>
 CondW v8 (
 κ (Value.int .i64 (8)) h) (
 rs_29_0 a0 b1 a2 h κ))

/-- (*latchstring/latchstringref18.Pool).Put -/
theorem rs_29 (a0 a1 a2 : Value) (h : Heap) (κ : Value → Heap → Prop) : BodyW Try.prog 29 [a0, a1, a2] h κ = (
 cellsK False (Value.cells a1).toList 27 false fun o0 => newBlock False o0 h fun b1 h =>
 loadA False 2 (ptrTo b1) h fun v2 h =>
 CallW Try.prog 31 [v2, a2] h fun v3 h =>
 unB False .not v3 h fun v4 h =>
 CondW v4 (
 κ (Value.int .i64 (2)) h) (
 rs_29_1 b1 a0 a2 h κ)) := by kernel_rfl

/-- (*latchstring/latchstringref18.Pool).Take -/
theorem rs_30 (a0 a1 : Value) (h : Heap) (κ : Value → Heap → Prop) : BodyW Try.prog 30 [a0, a1] h κ = (
 cellsK False (Value.cells a1).toList 27 false fun o0 => newBlock False o0 h fun b1 h =>
 RdK (some a0) h fun v2 h =>
 RdK (nilB none v2 h fun v _ => some v) h fun v3 h =>
 RdK (fieldAddrB none 1 v3 h fun v _ => some v) h fun v4 h =>
 RdK (load1 none v4 h fun v _ => some v) h fun v5 h =>
 RdK (loadA none 2 (ptrTo b1) h fun v _ => some v) h fun v6 h =>
 CallW Try.prog 70 [v5, v6] h fun v7 h =>
 RdK (some a0) h fun v8 h =>
 RdK (some a0) h fun v9 h =>
 RdK (nilB none v9 h fun v _ => some v) h fun v10 h =>
 RdK (fieldAddrB none 1 v10 h fun v _ => some v) h fun v11 h =>
 RdK (load1 none v11 h fun v _ => some v) h fun v12 h =>
 RdK (loadA none 2 (ptrTo b1) h fun v _ => some v) h fun v13 h =>
 CallW Try.prog 71 [v12, v13] h fun v14 h =>
 SameK ((reV (some a0) v8) && true) (RdK (nilB none v8 h fun v _ => some v) h fun v15 h =>
 RdK (fieldAddrB none 1 v15 h fun v _ => some v) h fun v16 h =>
 storeV False 1 v16 v14 h fun v17 h =>
 binB False Try.prog .neq 28 true false v7 (Value.int .i64 (0)) h fun v18 h =>
 κ (Value.tuple (Array.mk [v7, v18])) h)) := by kernel_rfl

/-- latchstring/latchstringref18.Eligible -/
theorem rs_31 (a0 a1 : Value) (h : Heap) (κ : Value → Heap → Prop) : BodyW Try.prog 31 [a0, a1] h κ = (
 cellsK False (Value.cells a0).toList 27 false fun o0 => newBlock False o0 h fun b1 h =>
 loadA False 2 (ptrTo b1) h fun v2 h =>
 CallW Try.prog 57 [v2] h fun v3 h =>
 binB False Try.prog .eql 36 true false v3 (Value.int .i64 (0)) h fun v4 h =>
 GuardW (wantV v4 true) (fun K5 =>
 loadA False 2 (ptrTo b1) h K5) h fun v6 h =>
 GuardW (wantV v4 true) (fun K7 =>
 CallW Try.prog 53 [v6] h K7) h fun v8 h =>
 GuardW (wantV v4 true) (fun K9 =>
 binB False Try.prog .lss 3 true false v8 (Value.int .i64 (2)) h K9) h fun v10 h =>
 pickB False v4 v10 (Value.bool false) h fun v11 h =>
 GuardW (wantV v11 true) (fun K12 =>
 K12 a1 h) h fun v13 h =>
 GuardW (wantV v11 true) (fun K14 =>
 binB False Try.prog .eql 28 true false v13 (Value.int .i64 (1)) h K14) h fun v15 h =>
 GuardW (wantV v11 true) (fun K16 =>
 K16 v15 h) h fun v17 h =>
 GuardW (wantV v17 false) (fun K18 =>
 K18 a1 h) h fun v19 h =>
 GuardW (wantV v17 false) (fun K20 =>
 binB False Try.prog .eql 28 true false v19 (Value.int .i64 (2)) h K20) h fun v21 h =>
 GuardW (wantV v11 true) (fun K22 =>
 pickB False v17 (Value.bool true) v21 h K22) h fun v23 h =>
 GuardW (wantV v11 true) (fun K24 =>
 K24 v23 h) h fun v25 h =>
 GuardW (wantV v25 false) (fun K26 =>
 K26 a1 h) h fun v27 h =>
 GuardW (wantV v25 false) (fun K28 =>
 binB False Try.prog .eql 28 true false v27 (Value.int .i64 (3)) h K28) h fun v29 h =>
 GuardW (wantV v11 true) (fun K30 =>
 pickB False v25 (Value.bool true) v29 h K30) h fun v31 h =>
 pickB False v11 v31 (Value.bool false) h fun v32 h =>
 κ v32 h) := by kernel_rfl

/-- (*latchstring/pass.Pool).Has -/
theorem rs_32 (a0 a1 : Value) (h : Heap) (κ : Value → Heap → Prop) : BodyW Try.prog 32 [a0, a1] h κ = (
 cellsK False (Value.cells a1).toList 27 false fun o0 => newBlock False o0 h fun b1 h =>
 RdK (some a0) h fun v2 h =>
 RdK (binB none Try.prog .neq 35 true false v2 (Value.pointer none) h fun v _ => some v) h fun v3 h =>
 RdK (some v3) h fun v4 h =>
 GuardW (wantV v4 true) (fun K5 =>
 RdK (some a0) h K5) h fun v6 h =>
 GuardW (wantV v4 true) (fun K7 =>
 RdK (nilB none v6 h fun v _ => some v) h K7) h fun v8 h =>
 GuardW (wantV v4 true) (fun K9 =>
 RdK (fieldAddrB none 0 v8 h fun v _ => some v) h K9) h fun v10 h =>
 GuardW (wantV v4 true) (fun K11 =>
 RdK (load1 none v10 h fun v _ => some v) h K11) h fun v12 h =>
 GuardW (wantV v4 true) (fun K13 =>
 RdK (loadA none 2 (ptrTo b1) h fun v _ => some v) h K13) h fun v14 h =>
 GuardW (wantV v4 true) (fun K15 =>
 CallW Try.prog 72 [v12, v14] h K15) h fun v16 h =>
 RdK (pickB none v4 v16 (Value.bool false) h fun v _ => some v) h fun v17 h =>
 κ v17 h) := by kernel_rfl

/-- (*latchstring/latchstringref18.Pool).Has -/
theorem rs_33 (a0 a1 : Value) (h : Heap) (κ : Value → Heap → Prop) : BodyW Try.prog 33 [a0, a1] h κ = (
 cellsK False (Value.cells a1).toList 27 false fun o0 => newBlock False o0 h fun b1 h =>
 RdK (some a0) h fun v2 h =>
 RdK (nilB none v2 h fun v _ => some v) h fun v3 h =>
 RdK (fieldAddrB none 1 v3 h fun v _ => some v) h fun v4 h =>
 RdK (load1 none v4 h fun v _ => some v) h fun v5 h =>
 RdK (loadA none 2 (ptrTo b1) h fun v _ => some v) h fun v6 h =>
 CallW Try.prog 70 [v5, v6] h fun v7 h =>
 RdK (binB none Try.prog .neq 28 true false v7 (Value.int .i64 (0)) h fun v _ => some v) h fun v8 h =>
 κ v8 h) := by kernel_rfl

noncomputable def rs_34_0 (a0 : Value) (l4 : List Value) (a1 : Value) (N3 : List Value → Heap → Prop) (v5 : Value) (v6 : Value) (h : Heap) (κ : Value → Heap → Prop) : Prop :=
 RdK (some a0) h fun v7 h =>
 RdK (some (slot l4 16)) h fun v8 h =>
 RdK (indexAddrS none 4 v7 v8 h fun v _ => some v) h fun v9 h =>
 RdK (loadA none 4 v9 h fun v _ => some v) h fun v10 h =>
 RdK (some a1) h fun v11 h =>
 RdK (some (slot l4 16)) h fun v12 h =>
 RdK (indexAddrS none 4 v11 v12 h fun v _ => some v) h fun v13 h =>
 RdK (loadA none 4 v13 h fun v _ => some v) h fun v14 h =>
 RdK (binB none Try.prog .neq 30 false false v10 v14 h fun v _ => some v) h fun v15 h =>
 CondW v15 (
 κ (Value.bool false) h) (
 binB False Try.prog .add 3 true false (slot l4 16) (Value.int .i64 (1)) h fun v16 h =>
 N3 [(slot l4 16), a0, v5, v6, v7, v8, v9, v10, v11, v12, v13, v14, v15, (slot l4 13), (slot l4 16), v16, v16] h)

/-- latchstring/latchstringkit.Same[latchstring/api.Held] -/
theorem rs_34 (a0 a1 : Value) (h : Heap) (κ : Value → Heap → Prop) : BodyW Try.prog 34 [a0, a1] h κ = (
 lenSli False a0 h fun v0 h =>
 lenSli False a1 h fun v1 h =>
 binB False Try.prog .neq 3 false false v0 v1 h fun v2 h =>
 CondW v2 (
 κ (Value.bool false) h) (
 LoopR [undef, undef, undef, undef, undef, undef, undef, undef, undef, undef, undef, undef, undef, (Value.bool false), undef, undef, (Value.int .i64 (0))] h fun l4 h N3 =>
 lenSli False a0 h fun v5 h =>
 binB False Try.prog .lss 3 false false (slot l4 16) v5 h fun v6 h =>
 CondW v6 (
 rs_34_0 a0 l4 a1 N3 v5 v6 h κ) (
 κ (Value.bool true) h))) := by kernel_rfl

/-- (*latchstring/latchstringref18.Pool).List -/
theorem rs_35 (a0 : Value) (h : Heap) (κ : Value → Heap → Prop) : BodyW Try.prog 35 [a0] h κ = (
 fillB False [] [] (repeatL [(Value.int .i64 (0)), (Value.int .i64 (0)), (Value.int .i64 (0)), (Value.int .i64 (0))] 0) fun cs2 => cellsK False cs2 30 false fun o0 => newBlock False o0 h fun b1 h =>
 nilB False a0 h fun v3 h =>
 fieldAddrB False 1 v3 h fun v4 h =>
 load1 False v4 h fun v5 h =>
 appendB False 30 4 [(Value.int .i64 (0)), (Value.int .i64 (0)), (Value.int .i64 (0)), (Value.int .i64 (0))] false (sliceTo 0 0 b1) v5 h fun v6 h =>
 κ v6 h) := by kernel_rfl

/-- (*latchstring/latchstringref18.Pool).Room -/
theorem rs_36 (a0 : Value) (h : Heap) (κ : Value → Heap → Prop) : BodyW Try.prog 36 [a0] h κ = (
 RdK (some a0) h fun v0 h =>
 RdK (nilB none v0 h fun v _ => some v) h fun v1 h =>
 RdK (fieldAddrB none 2 v1 h fun v _ => some v) h fun v2 h =>
 RdK (load1 none v2 h fun v _ => some v) h fun v3 h =>
 RdK (some a0) h fun v4 h =>
 RdK (nilB none v4 h fun v _ => some v) h fun v5 h =>
 RdK (fieldAddrB none 1 v5 h fun v _ => some v) h fun v6 h =>
 RdK (load1 none v6 h fun v _ => some v) h fun v7 h =>
 RdK (lenSli none v7 h fun v _ => some v) h fun v8 h =>
 RdK (binB none Try.prog .sub 3 false false v3 v8 h fun v _ => some v) h fun v9 h =>
 κ v9 h) := by kernel_rfl

/-- (*latchstring/pass.Pool).Txn -/
theorem rs_37 (a0 : Value) (h : Heap) (κ : Value → Heap → Prop) : BodyW Try.prog 37 [a0] h κ = (
 binB False Try.prog .eql 35 true false a0 (Value.pointer none) h fun v0 h =>
 CondW v0 (
 κ (Value.int .i64 (0)) h) (
 nilB False a0 h fun v1 h =>
 fieldAddrB False 1 v1 h fun v2 h =>
 load1 False v2 h fun v3 h =>
 κ v3 h)) := by kernel_rfl

/-- latchstring/cache.Mode -/
theorem rs_42 (a0 a1 : Value) (h : Heap) (κ : Value → Heap → Prop) : BodyW Try.prog 42 [a0, a1] h κ = (
 cellsK False (Value.cells a1).toList 27 false fun o0 => newBlock False o0 h fun b1 h =>
 loadA False 2 (ptrTo b1) h fun v2 h =>
 CallW Try.prog 79 [a0, v2] h fun v3 h =>
 binB False Try.prog .geq 3 true false v3 (Value.int .i64 (0)) h fun v4 h =>
 CondW v4 (
 indexAddrS False 4 a0 v3 h fun v5 h =>
 fieldAddrB False 3 v5 h fun v6 h =>
 load1 False v6 h fun v7 h =>
 κ v7 h) (
 κ (Value.int .i64 (0)) h)) := by kernel_rfl

noncomputable def rs_44_0 (v2 : Value) (b1 : Nat) (h : Heap) (κ : Value → Heap → Prop) : Prop :=
 CallW Try.prog 82 [v2, (Value.func (.func 83) (Array.mk []) (Array.mk [(ptrTo b1)]))] h fun v10 h =>
 JoinR (fun N11 =>
 binB False Try.prog .lss 3 true false v10 (Value.int .i64 (0)) h fun v13 h =>
 CondW v13 (
 lenSli False v2 h fun v14 h =>
 N11 [v10, v13, v2, v14, v14] h) (
 N11 [v10, v13, undef, undef, v10] h)) fun l12 h =>
 loadA False 4 (ptrTo b1) h fun v15 h =>
 fillB False [(0, 4)] [v15] (repeatL [(Value.int .i64 (0)), (Value.int .i64 (0)), (Value.int .i64 (0)), (Value.int .i64 (0))] 1) fun cs18 => cellsK False cs18 30 false fun o16 => newBlock False o16 h fun b17 h =>
 CallW Try.prog 85 [v2, (slot l12 4), (sliceTo 1 1 b17)] h fun v19 h =>
 κ v19 h

/-- latchstring/cache.Put -/
theorem rs_44 (a0 a1 : Value) (h : Heap) (κ : Value → Heap → Prop) : BodyW Try.prog 44 [a0, a1] h κ = (
 cellsK False (Value.cells a1).toList 30 false fun o0 => newBlock False o0 h fun b1 h =>
 CallW Try.prog 81 [a0] h fun v2 h =>
 fieldAddrB False 1 (ptrTo b1) h fun v3 h =>
 loadA False 2 v3 h fun v4 h =>
 CallW Try.prog 79 [v2, v4] h fun v5 h =>
 binB False Try.prog .geq 3 true false v5 (Value.int .i64 (0)) h fun v6 h =>
 CondW v6 (
 loadA False 4 (ptrTo b1) h fun v7 h =>
 indexAddrS False 4 v2 v5 h fun v8 h =>
 storeV False 4 v8 v7 h fun v9 h =>
 κ v2 h) (
 rs_44_0 v2 b1 h κ)) := by kernel_rfl

/-- latchstring/cache.Drop -/
theorem rs_48 (a0 a1 : Value) (h : Heap) (κ : Value → Heap → Prop) : BodyW Try.prog 48 [a0, a1] h κ = (
 cellsK False (Value.cells a1).toList 27 false fun o0 => newBlock False o0 h fun b1 h =>
 CallW Try.prog 81 [a0] h fun v2 h =>
 CallW Try.prog 90 [v2, (Value.func (.func 91) (Array.mk []) (Array.mk [(ptrTo b1)]))] h fun v3 h =>
 κ v3 h) := by kernel_rfl

noncomputable def rs_51_0 (v5 : Value) (l23 : List Value) (b1 : Nat) (h : Heap) (κ : Value → Heap → Prop) : Prop :=
 fillB False [] [] (repeatL [(Value.int .i64 (0)), (Value.int .i64 (0)), (Value.int .i64 (0)), (Value.int .i64 (0))] 0) fun cs51 => cellsK False cs51 30 false fun o49 => newBlock False o49 h fun b50 h =>
 sliceB False 30 4 v5 (some (slot l23 17)) none none h fun v52 h =>
 appendB False 30 4 [(Value.int .i64 (0)), (Value.int .i64 (0)), (Value.int .i64 (0)), (Value.int .i64 (0))] false (sliceTo 0 0 b50) v52 h fun v53 h =>
 RdK (some v5) h fun v54 h =>
 RdK (some (slot l23 17)) h fun v55 h =>
 RdK (sliceB none 30 4 v54 none (some v55) none h fun v _ => some v) h fun v56 h =>
 RdK (loadA none 4 (ptrTo b1) h fun v _ => some v) h fun v57 h =>
 AlK (fillB none [(0, 4)] [v57] (repeatL [(Value.int .i64 (0)), (Value.int .i64 (0)), (Value.int .i64 (0)), (Value.int .i64 (0))] 1) fun cs => cellsK none cs 30 false fun o => some (o, sliceTo 1 1)) h fun v58 h =>
 RdK (some v53) h fun v59 h =>
 appendB False 30 4 [(Value.int .i64 (0)), (Value.int .i64 (0)), (Value.int .i64 (0)), (Value.int .i64 (0))] false v56 v58 h fun v60 h =>
 SameK ((reV (some v53) v59) && true) (appendB False 30 4 [(Value.int .i64 (0)), (Value.int .i64 (0)), (Value.int .i64 (0)), (Value.int .i64 (0))] false v60 v59 h fun v61 h =>
 κ v61 h)

noncomputable def rs_51_1 (l23 : List Value) (v5 : Value) (b1 : Nat) (N22 : List Value → Heap → Prop) (h : Heap) (κ : Value → Heap → Prop) : Prop :=
 RdK (some (slot l23 17)) h fun v24 h =>
 RdK (some v5) h fun v25 h =>
 RdK (lenSli none v25 h fun v _ => some v) h fun v26 h =>
 RdK (binB none Try.prog .lss 3 false false v24 v26 h fun v _ => some v) h fun v27 h =>
 RdK (some v27) h fun v28 h =>
 GuardW (wantV v28 true) (fun K29 =>
 RdK (some v5) h K29) h fun v30 h =>
 GuardW (wantV v28 true) (fun K31 =>
 RdK (some (slot l23 17)) h K31) h fun v32 h =>
 GuardW (wantV v28 true) (fun K33 =>
 RdK (indexAddrS none 4 v30 v32 h fun v _ => some v) h K33) h fun v34 h =>
 GuardW (wantV v28 true) (fun K35 =>
 RdK (fieldAddrB none 1 v34 h fun v _ => some v) h K35) h fun v36 h =>
 GuardW (wantV v28 true) (fun K37 =>
 RdK (loadA none 2 v36 h fun v _ => some v) h K37) h fun v38 h =>
 GuardW (wantV v28 true) (fun K39 =>
 RdK (fieldAddrB none 1 (ptrTo b1) h fun v _ => some v) h K39) h fun v40 h =>
 GuardW (wantV v28 true) (fun K41 =>
 RdK (loadA none 2 v40 h fun v _ => some v) h K41) h fun v42 h =>
 GuardW (wantV v28 true) (fun K43 =>
 CallW Try.prog 25 [v38, v42] h K43) h fun v44 h =>
 GuardW (wantV v28 true) (fun K45 =>
 RdK (binB none Try.prog .lss 3 true false v44 (Value.int .i64 (0)) h fun v _ => some v) h K45) h fun v46 h =>
 RdK (pickB none v28 v46 (Value.bool false) h fun v _ => some v) h fun v47 h =>
 CondW v47 (
 binB False Try.prog .add 3 true false (slot l23 17) (Value.int .i64 (1)) h fun v48 h =>
 N22 [v24, v25, v26, v27, v28, v30, v32, v34, v36, v38, v40, v42, v44, v46, v47, (slot l23 17), v48, v48] h) (
 rs_51_0 v5 l23 b1 h κ)

noncomputable def rs_51_2 (v5 : Value) (l7 : List Value) (b1 : Nat) (N6 : List Value → Heap → Prop) (v8 : Value) (v9 : Value) (h : Heap) (κ : Value → Heap → Prop) : Prop :=
 RdK (some v5) h fun v10 h =>
 RdK (some (slot l7 20)) h fun v11 h =>
 RdK (indexAddrS none 4 v10 v11 h fun v _ => some v) h fun v12 h =>
 RdK (fieldAddrB none 1 v12 h fun v _ => some v) h fun v13 h =>
 RdK (loadA none 2 v13 h fun v _ => some v) h fun v14 h =>
 RdK (fieldAddrB none 1 (ptrTo b1) h fun v _ => some v) h fun v15 h =>
 RdK (loadA none 2 v15 h fun v _ => some v) h fun v16 h =>
 RdK (binB none Try.prog .eql 27 false false v14 v16 h fun v _ => some v) h fun v17 h =>
 CondW v17 (
 loadA False 4 (ptrTo b1) h fun v18 h =>
 indexAddrS False 4 v5 (slot l7 20) h fun v19 h =>
 storeV False 4 v19 v18 h fun v20 h =>
 κ v5 h) (
 binB False Try.prog .add 3 true false (slot l7 20) (Value.int .i64 (1)) h fun v21 h =>
 N6 [(slot l7 20), v5, v8, v9, v10, v11, v12, v13, v14, v15, v16, v17, (slot l7 12), (slot l7 13), (slot l7 14), (slot l7 15), (slot l7 16), (slot l7 17), (slot l7 20), v21, v21] h)

/-- latchstring/latchstringref17.Put -/
theorem rs_51 (a0 a1 : Value) (h : Heap) (κ : Value → Heap → Prop) : BodyW Try.prog 51 [a0, a1] h κ = (
 cellsK False (Value.cells a1).toList 30 false fun o0 => newBlock False o0 h fun b1 h =>
 fillB False [] [] (repeatL [(Value.int .i64 (0)), (Value.int .i64 (0)), (Value.int .i64 (0)), (Value.int .i64 (0))] 0) fun cs4 => cellsK False cs4 30 false fun o2 => newBlock False o2 h fun b3 h =>
 appendB False 30 4 [(Value.int .i64 (0)), (Value.int .i64 (0)), (Value.int .i64 (0)), (Value.int .i64 (0))] false (sliceTo 0 0 b3) a0 h fun v5 h =>
 LoopR [undef, undef, undef, undef, undef, undef, undef, undef, undef, undef, undef, undef, undef, undef, undef, undef, undef, (Value.slice none 0 0), undef, undef, (Value.int .i64 (0))] h fun l7 h N6 =>
 lenSli False v5 h fun v8 h =>
 binB False Try.prog .lss 3 false false (slot l7 20) v8 h fun v9 h =>
 CondW v9 (
 rs_51_2 v5 l7 b1 N6 v8 v9 h κ) (
 LoopR [undef, undef, undef, undef, undef, undef, undef, undef, undef, undef, undef, undef, undef, undef, undef, undef, undef, (Value.int .i64 (0))] h fun l23 h N22 =>
 rs_51_1 l23 v5 b1 N22 h κ)) := by kernel_rfl

noncomputable def rs_53_0 (b1 : Nat) (h : Heap) (κ : Value → Heap → Prop) : Prop :=
 fieldAddrB False 0 (ptrTo b1) h fun v5 h =>
 load1 False v5 h fun v6 h =>
 binB False Try.prog .lss 3 true false v6 (Value.int .i64 (0)) h fun v7 h =>
 GuardW (wantV v7 false) (fun K8 =>
 fieldAddrB False 0 (ptrTo b1) h K8) h fun v9 h =>
 GuardW (wantV v7 false) (fun K10 =>
 load1 False v9 h K10) h fun v11 h =>
 GuardW (wantV v7 false) (fun K12 =>
 binB False Try.prog .geq 3 true false v11 (Value.int .i64 (100)) h K12) h fun v13 h =>
 pickB False v7 (Value.bool true) v13 h fun v14 h =>
 GuardW (wantV v14 false) (fun K15 =>
 fieldAddrB False 1 (ptrTo b1) h K15) h fun v16 h =>
 GuardW (wantV v14 false) (fun K17 =>
 load1 False v16 h K17) h fun v18 h =>
 GuardW (wantV v14 false) (fun K19 =>
 binB False Try.prog .lss 3 true false v18 (Value.int .i64 (-1)) h K19) h fun v20 h =>
 pickB False v14 (Value.bool true) v20 h fun v21 h =>
 GuardW (wantV v21 false) (fun K22 =>
 fieldAddrB False 1 (ptrTo b1) h K22) h fun v23 h =>
 GuardW (wantV v21 false) (fun K24 =>
 load1 False v23 h K24) h fun v25 h =>
 GuardW (wantV v21 false) (fun K26 =>
 binB False Try.prog .geq 3 true false v25 (Value.int .i64 (100)) h K26) h fun v27 h =>
 pickB False v21 (Value.bool true) v27 h fun v28 h =>
 CondW v28 (
 κ (Value.int .i64 (-1)) h) (
 fieldAddrB False 1 (ptrTo b1) h fun v29 h =>
 load1 False v29 h fun v30 h =>
 binB False Try.prog .eql 3 true false v30 (Value.int .i64 (-1)) h fun v31 h =>
 CondW v31 (
 κ (Value.int .i64 (1)) h) (
 κ (Value.int .i64 (2)) h))

/-- latchstring/latchstringref02.Level -/
theorem rs_53 (a0 : Value) (h : Heap) (κ : Value → Heap → Prop) : BodyW Try.prog 53 [a0] h κ = (
 cellsK False (Value.cells a0).toList 27 false fun o0 => newBlock False o0 h fun b1 h =>
 RdK (loadA none 2 (ptrTo b1) h fun v _ => some v) h fun v2 h =>
 CallW Try.prog 101 [] h fun v3 h =>
 SameK ((reV (loadA none 2 (ptrTo b1) h fun v _ => some v) v2) && true) (RdK (binB none Try.prog .eql 27 false false v2 v3 h fun v _ => some v) h fun v4 h =>
 CondW v4 (
 κ (Value.int .i64 (0)) h) (
 rs_53_0 b1 h κ))) := by kernel_rfl

/-- latchstring/latchstringref02.Check -/
theorem rs_57 (a0 : Value) (h : Heap) (κ : Value → Heap → Prop) : BodyW Try.prog 57 [a0] h κ = (
 cellsK False (Value.cells a0).toList 27 false fun o0 => newBlock False o0 h fun b1 h =>
 loadA False 2 (ptrTo b1) h fun v2 h =>
 CallW Try.prog 53 [v2] h fun v3 h =>
 binB False Try.prog .lss 3 true false v3 (Value.int .i64 (0)) h fun v4 h =>
 CondW v4 (
 κ (Value.int .i64 (2)) h) (
 κ (Value.int .i64 (0)) h)) := by kernel_rfl

noncomputable def rs_68_0 (b1 : Nat) (h : Heap) (κ : Value → Heap → Prop) : Prop :=
 fieldAddrB False 0 (ptrTo b1) h fun v15 h =>
 load1 False v15 h fun v16 h =>
 CallW Try.prog 125 [v16] h fun v17 h =>
 GuardW (wantV v17 true) (fun K18 =>
 fieldAddrB False 1 (ptrTo b1) h K18) h fun v19 h =>
 GuardW (wantV v17 true) (fun K20 =>
 load1 False v19 h K20) h fun v21 h =>
 GuardW (wantV v17 true) (fun K22 =>
 CallW Try.prog 125 [v21] h K22) h fun v23 h =>
 pickB False v17 v23 (Value.bool false) h fun v24 h =>
 CondW v24 (
 κ (Value.int .i64 (2)) h) (
 κ (Value.int .i64 (-1)) h)

noncomputable def rs_68_1 (b1 : Nat) (h : Heap) (κ : Value → Heap → Prop) : Prop :=
 fieldAddrB False 0 (ptrTo b1) h fun v5 h =>
 load1 False v5 h fun v6 h =>
 CallW Try.prog 125 [v6] h fun v7 h =>
 GuardW (wantV v7 true) (fun K8 =>
 fieldAddrB False 1 (ptrTo b1) h K8) h fun v9 h =>
 GuardW (wantV v7 true) (fun K10 =>
 load1 False v9 h K10) h fun v11 h =>
 GuardW (wantV v7 true) (fun K12 =>
 binB False Try.prog .eql 3 true false v11 (Value.int .i64 (-1)) h K12) h fun v13 h =>
 pickB False v7 v13 (Value.bool false) h fun v14 h =>
 CondW v14 (
 κ (Value.int .i64 (1)) h) (
 rs_68_0 b1 h κ)

/-- latchstring/name.Level -/
theorem rs_68 (a0 : Value) (h : Heap) (κ : Value → Heap → Prop) : BodyW Try.prog 68 [a0] h κ = (
 cellsK False (Value.cells a0).toList 27 false fun o0 => newBlock False o0 h fun b1 h =>
 RdK (loadA none 2 (ptrTo b1) h fun v _ => some v) h fun v2 h =>
 CallW Try.prog 124 [] h fun v3 h =>
 SameK ((reV (loadA none 2 (ptrTo b1) h fun v _ => some v) v2) && true) (RdK (binB none Try.prog .eql 27 false false v2 v3 h fun v _ => some v) h fun v4 h =>
 CondW v4 (
 κ (Value.int .i64 (0)) h) (
 rs_68_1 b1 h κ))) := by kernel_rfl

/-- (*latchstring/pass.locks).List -/
theorem rs_69 (a0 : Value) (h : Heap) (κ : Value → Heap → Prop) : BodyW Try.prog 69 [a0] h κ = (
 binB False Try.prog .eql 100 true false a0 (Value.pointer none) h fun v0 h =>
 CondW v0 (
 κ (Value.slice none 0 0) h) (
 nilB False a0 h fun v1 h =>
 fieldAddrB False 0 v1 h fun v2 h =>
 load1 False v2 h fun v3 h =>
 appendB False 30 4 [(Value.int .i64 (0)), (Value.int .i64 (0)), (Value.int .i64 (0)), (Value.int .i64 (0))] false (Value.slice none 0 0) v3 h fun v4 h =>
 κ v4 h)) := by kernel_rfl

noncomputable def rs_70_0 (a0 : Value) (l3 : List Value) (b1 : Nat) (N2 : List Value → Heap → Prop) (v4 : Value) (v5 : Value) (h : Heap) (κ : Value → Heap → Prop) : Prop :=
 RdK (some a0) h fun v6 h =>
 RdK (some (slot l3 19)) h fun v7 h =>
 RdK (indexAddrS none 4 v6 v7 h fun v _ => some v) h fun v8 h =>
 RdK (fieldAddrB none 1 v8 h fun v _ => some v) h fun v9 h =>
 RdK (loadA none 2 v9 h fun v _ => some v) h fun v10 h =>
 RdK (loadA none 2 (ptrTo b1) h fun v _ => some v) h fun v11 h =>
 RdK (binB none Try.prog .eql 27 false false v10 v11 h fun v _ => some v) h fun v12 h =>
 CondW v12 (
 indexAddrS False 4 a0 (slot l3 19) h fun v13 h =>
 fieldAddrB False 3 v13 h fun v14 h =>
 load1 False v14 h fun v15 h =>
 κ v15 h) (
 binB False Try.prog .add 3 true false (slot l3 19) (Value.int .i64 (1)) h fun v16 h =>
 N2 [(slot l3 19), a0, v4, v5, v6, v7, v8, v9, v10, v11, v12, (slot l3 11), (slot l3 12), (slot l3 13), (slot l3 14), (slot l3 15), (slot l3 16), (slot l3 19), v16, v16] h)

/-- latchstring/latchstringref17.Mode -/
theorem rs_70 (a0 a1 : Value) (h : Heap) (κ : Value → Heap → Prop) : BodyW Try.prog 70 [a0, a1] h κ = (
 cellsK False (Value.cells a1).toList 27 false fun o0 => newBlock False o0 h fun b1 h =>
 LoopR [undef, undef, undef, undef, undef, undef, undef, undef, undef, undef, undef, undef, undef, undef, undef, undef, (Value.int .i64 (0)), undef, undef, (Value.int .i64 (0))] h fun l3 h N2 =>
 lenSli False a0 h fun v4 h =>
 binB False Try.prog .lss 3 false false (slot l3 19) v4 h fun v5 h =>
 CondW v5 (
 rs_70_0 a0 l3 b1 N2 v4 v5 h κ) (
 κ (Value.int .i64 (0)) h)) := by kernel_rfl

noncomputable def rs_71_0 (a0 : Value) (l3 : List Value) (b1 : Nat) (N6 : List Value → Heap → Prop) (h : Heap) : Prop :=
 RdK (some a0) h fun v8 h =>
 RdK (some (slot l3 21)) h fun v9 h =>
 RdK (indexAddrS none 4 v8 v9 h fun v _ => some v) h fun v10 h =>
 RdK (fieldAddrB none 1 v10 h fun v _ => some v) h fun v11 h =>
 RdK (loadA none 2 v11 h fun v _ => some v) h fun v12 h =>
 RdK (loadA none 2 (ptrTo b1) h fun v _ => some v) h fun v13 h =>
 RdK (binB none Try.prog .neq 27 false false v12 v13 h fun v _ => some v) h fun v14 h =>
 CondW v14 (
 indexAddrS False 4 a0 (slot l3 21) h fun v15 h =>
 loadA False 4 v15 h fun v16 h =>
 fillB False [(0, 4)] [v16] (repeatL [(Value.int .i64 (0)), (Value.int .i64 (0)), (Value.int .i64 (0)), (Value.int .i64 (0))] 1) fun cs19 => cellsK False cs19 30 false fun o17 => newBlock False o17 h fun b18 h =>
 appendB False 30 4 [(Value.int .i64 (0)), (Value.int .i64 (0)), (Value.int .i64 (0)), (Value.int .i64 (0))] false (slot l3 18) (sliceTo 1 1 b18) h fun v20 h =>
 N6 [v8, v9, v10, v11, v12, v13, v14, (slot l3 18), a0, (slot l3 21), v15, v16, (sliceTo 1 1 b18), v20, v20] h) (
 N6 [v8, v9, v10, v11, v12, v13, v14, (slot l3 11), (slot l3 12), (slot l3 13), (slot l3 14), (slot l3 15), (slot l3 16), (slot l3 17), (slot l3 18)] h)

noncomputable def rs_71_1 (a0 : Value) (l3 : List Value) (b1 : Nat) (N2 : List Value → Heap → Prop) (h : Heap) (κ : Value → Heap → Prop) : Prop :=
 lenSli False a0 h fun v4 h =>
 binB False Try.prog .lss 3 false false (slot l3 21) v4 h fun v5 h =>
 CondW v5 (
 JoinR (fun N6 =>
 rs_71_0 a0 l3 b1 N6 h) fun l7 h =>
 binB False Try.prog .add 3 true false (slot l3 21) (Value.int .i64 (1)) h fun v21 h =>
 N2 [(slot l3 21), a0, v4, v5, (slot l7 0), (slot l7 1), (slot l7 2), (slot l7 3), (slot l7 4), (slot l7 5), (slot l7 6), (slot l7 7), (slot l7 8), (slot l7 9), (slot l7 10), (slot l7 11), (slot l7 12), (slot l7 13), (slot l7 14), (slot l3 21), v21, v21] h) (
 κ (slot l3 18) h)

/-- latchstring/latchstringref17.Drop -/
theorem rs_71 (a0 a1 : Value) (h : Heap) (κ : Value → Heap → Prop) : BodyW Try.prog 71 [a0, a1] h κ = (
 cellsK False (Value.cells a1).toList 27 false fun o0 => newBlock False o0 h fun b1 h =>
 LoopR [undef, undef, undef, undef, undef, undef, undef, undef, undef, undef, undef, undef, undef, undef, undef, undef, undef, undef, (Value.slice none 0 0), undef, undef, (Value.int .i64 (0))] h fun l3 h N2 =>
 rs_71_1 a0 l3 b1 N2 h κ) := by kernel_rfl

/-- (*latchstring/pass.locks).Has -/
theorem rs_72 (a0 a1 : Value) (h : Heap) (κ : Value → Heap → Prop) : BodyW Try.prog 72 [a0, a1] h κ = (
 cellsK False (Value.cells a1).toList 27 false fun o0 => newBlock False o0 h fun b1 h =>
 RdK (some a0) h fun v2 h =>
 RdK (binB none Try.prog .neq 100 true false v2 (Value.pointer none) h fun v _ => some v) h fun v3 h =>
 RdK (some v3) h fun v4 h =>
 GuardW (wantV v4 true) (fun K5 =>
 RdK (some a0) h K5) h fun v6 h =>
 GuardW (wantV v4 true) (fun K7 =>
 RdK (nilB none v6 h fun v _ => some v) h K7) h fun v8 h =>
 GuardW (wantV v4 true) (fun K9 =>
 RdK (fieldAddrB none 0 v8 h fun v _ => some v) h K9) h fun v10 h =>
 GuardW (wantV v4 true) (fun K11 =>
 RdK (load1 none v10 h fun v _ => some v) h K11) h fun v12 h =>
 GuardW (wantV v4 true) (fun K13 =>
 RdK (loadA none 2 (ptrTo b1) h fun v _ => some v) h K13) h fun v14 h =>
 GuardW (wantV v4 true) (fun K15 =>
 CallW Try.prog 42 [v12, v14] h K15) h fun v16 h =>
 GuardW (wantV v4 true) (fun K17 =>
 RdK (binB none Try.prog .neq 28 true false v16 (Value.int .i64 (0)) h fun v _ => some v) h K17) h fun v18 h =>
 RdK (pickB none v4 v18 (Value.bool false) h fun v _ => some v) h fun v19 h =>
 κ v19 h) := by kernel_rfl

/-- latchstring/cache.at -/
theorem rs_79 (a0 a1 : Value) (h : Heap) (κ : Value → Heap → Prop) : BodyW Try.prog 79 [a0, a1] h κ = (
 cellsK False (Value.cells a1).toList 27 false fun o0 => newBlock False o0 h fun b1 h =>
 CallW Try.prog 82 [a0, (Value.func (.func 128) (Array.mk []) (Array.mk [(ptrTo b1)]))] h fun v2 h =>
 κ v2 h) := by kernel_rfl

/-- slices.Clone[[]latchstring/api.Held,latchstring/api.Held] -/
theorem rs_81 (a0 : Value) (h : Heap) (κ : Value → Heap → Prop) : BodyW Try.prog 81 [a0] h κ = (
 binB False Try.prog .eql 22 true false a0 (Value.slice none 0 0) h fun v0 h =>
 CondW v0 (
 κ (Value.slice none 0 0) h) (
 fillB False [] [] (repeatL [(Value.int .i64 (0)), (Value.int .i64 (0)), (Value.int .i64 (0)), (Value.int .i64 (0))] 0) fun cs3 => cellsK False cs3 30 false fun o1 => newBlock False o1 h fun b2 h =>
 appendB False 30 4 [(Value.int .i64 (0)), (Value.int .i64 (0)), (Value.int .i64 (0)), (Value.int .i64 (0))] false (sliceTo 0 0 b2) a0 h fun v4 h =>
 κ v4 h)) := by kernel_rfl

noncomputable def rs_82_0 (a0 : Value) (l2 : List Value) (a1 : Value) (N1 : List Value → Heap → Prop) (v3 : Value) (h : Heap) (κ : Value → Heap → Prop) : Prop :=
 indexAddrS False 4 a0 (slot l2 12) h fun v4 h =>
 loadA False 4 v4 h fun v5 h =>
 CallV Try.prog a1 [v5] h fun v6 h =>
 CondW v6 (
 κ (slot l2 12) h) (
 binB False Try.prog .add 3 true false (slot l2 12) (Value.int .i64 (1)) h fun v7 h =>
 N1 [v3, (slot l2 12), (slot l2 12), a1, a0, (slot l2 12), v4, v5, v6, (slot l2 9), (slot l2 10), v7, v7] h)

/-- slices.IndexFunc[[]latchstring/api.Held,latchstring/api.Held] -/
theorem rs_82 (a0 a1 : Value) (h : Heap) (κ : Value → Heap → Prop) : BodyW Try.prog 82 [a0, a1] h κ = (
 lenSli False a0 h fun v0 h =>
 LoopR [undef, undef, undef, undef, undef, undef, undef, undef, undef, undef, (Value.int .i64 (0)), undef, (Value.int .i64 (0))] h fun l2 h N1 =>
 binB False Try.prog .lss 3 false false (slot l2 12) v0 h fun v3 h =>
 CondW v3 (
 rs_82_0 a0 l2 a1 N1 v3 h κ) (
 κ (Value.int .i64 (-1)) h)) := by kernel_rfl

/-- latchstring/cache.Put$1 -/
theorem rs_83 (a0 a1 : Value) (h : Heap) (κ : Value → Heap → Prop) : BodyW Try.prog 83 [a0, a1] h κ = (
 cellsK False (Value.cells a0).toList 30 false fun o0 => newBlock False o0 h fun b1 h =>
 fieldAddrB False 1 (ptrTo b1) h fun v2 h =>
 loadA False 2 v2 h fun v3 h =>
 fieldAddrB False 1 a1 h fun v4 h =>
 loadA False 2 v4 h fun v5 h =>
 CallW Try.prog 84 [v3, v5] h fun v6 h =>
 binB False Try.prog .gtr 3 true false v6 (Value.int .i64 (0)) h fun v7 h =>
 κ v7 h) := by kernel_rfl

/-- latchstring/name.Compare -/
theorem rs_84 (a0 a1 : Value) (h : Heap) (κ : Value → Heap → Prop) : BodyW Try.prog 84 [a0, a1] h κ = (
 cellsK False (Value.cells a0).toList 27 false fun o0 => newBlock False o0 h fun b1 h =>
 cellsK False (Value.cells a1).toList 27 false fun o2 => newBlock False o2 h fun b3 h =>
 RdK (fieldAddrB none 0 (ptrTo b1) h fun v _ => some v) h fun v4 h =>
 RdK (load1 none v4 h fun v _ => some v) h fun v5 h =>
 RdK (fieldAddrB none 0 (ptrTo b3) h fun v _ => some v) h fun v6 h =>
 RdK (load1 none v6 h fun v _ => some v) h fun v7 h =>
 RdK (fieldAddrB none 1 (ptrTo b1) h fun v _ => some v) h fun v8 h =>
 RdK (load1 none v8 h fun v _ => some v) h fun v9 h =>
 RdK (fieldAddrB none 1 (ptrTo b3) h fun v _ => some v) h fun v10 h =>
 RdK (load1 none v10 h fun v _ => some v) h fun v11 h =>
 CallW Try.prog 130 [v5, v7] h fun v12 h =>
 SameK ((reV (fieldAddrB none 1 (ptrTo b1) h fun v _ => some v) v8) && ((reV (load1 none v8 h fun v _ => some v) v9) && ((reV (fieldAddrB none 1 (ptrTo b3) h fun v _ => some v) v10) && ((reV (load1 none v10 h fun v _ => some v) v11) && true)))) (CallW Try.prog 130 [v9, v11] h fun v13 h =>
 AlK (fillB none [(0, 1), (1, 1)] [v12, v13] (repeatL [(Value.int .i64 (0))] 2) fun cs => cellsK none cs 3 false fun o => some (o, sliceTo 2 2)) h fun v14 h =>
 CallW Try.prog 129 [v14] h fun v15 h =>
 κ v15 h)) := by kernel_rfl

noncomputable def rs_90_0 (a0 : Value) (l4 : List Value) (a1 : Value) (N7 : List Value → Heap → Prop) (h : Heap) : Prop :=
 indexAddrS False 4 a0 (slot l4 22) h fun v9 h =>
 loadA False 4 v9 h fun v10 h =>
 cellsK False [(Value.int .i64 (0)), (Value.int .i64 (0)), (Value.int .i64 (0)), (Value.int .i64 (0))] 30 false fun o11 => newBlock False o11 h fun b12 h =>
 storeV False 4 (ptrTo b12) v10 h fun v13 h =>
 loadA False 4 (ptrTo b12) h fun v14 h =>
 CallV Try.prog a1 [v14] h fun v15 h =>
 unB False .not v15 h fun v16 h =>
 CondW v16 (
 loadA False 4 (ptrTo b12) h fun v17 h =>
 indexAddrS False 4 a0 (slot l4 19) h fun v18 h =>
 storeV False 4 v18 v17 h fun v19 h =>
 binB False Try.prog .add 3 true false (slot l4 19) (Value.int .i64 (1)) h fun v20 h =>
 N7 [a0, (slot l4 22), v9, v10, (ptrTo b12), a1, v14, v15, v16, a0, (slot l4 19), v17, v18, (slot l4 19), v20, v20] h) (
 N7 [a0, (slot l4 22), v9, v10, (ptrTo b12), a1, v14, v15, v16, (slot l4 13), (slot l4 14), (slot l4 15), (slot l4 16), (slot l4 17), (slot l4 18), (slot l4 19)] h)

noncomputable def rs_90_1 (a0 : Value) (l4 : List Value) (a1 : Value) (N3 : List Value → Heap → Prop) (h : Heap) (κ : Value → Heap → Prop) : Prop :=
 lenSli False a0 h fun v5 h =>
 binB False Try.prog .lss 3 false false (slot l4 22) v5 h fun v6 h =>
 CondW v6 (
 JoinR (fun N7 =>
 rs_90_0 a0 l4 a1 N7 h) fun l8 h =>
 binB False Try.prog .add 3 true false (slot l4 22) (Value.int .i64 (1)) h fun v21 h =>
 N3 [(slot l4 22), a0, v5, v6, (slot l8 0), (slot l8 1), (slot l8 2), (slot l8 3), (slot l8 4), (slot l8 5), (slot l8 6), (slot l8 7), (slot l8 8), (slot l8 9), (slot l8 10), (slot l8 11), (slot l8 12), (slot l8 13), (slot l8 14), (slot l8 15), (slot l4 22), v21, v21] h) (
 sliceB False 30 4 a0 (some (slot l4 19)) none none h fun v22 h =>
 clearB False [(Value.int .i64 (0)), (Value.int .i64 (0)), (Value.int .i64 (0)), (Value.int .i64 (0))] v22 h fun v23 h =>
 sliceB False 30 4 a0 none (some (slot l4 19)) none h fun v24 h =>
 κ v24 h)

/-- slices.DeleteFunc[[]latchstring/api.Held,latchstring/api.Held] -/
theorem rs_90 (a0 a1 : Value) (h : Heap) (κ : Value → Heap → Prop) : BodyW Try.prog 90 [a0, a1] h κ = (
 CallW Try.prog 82 [a0, a1] h fun v0 h =>
 binB False Try.prog .eql 3 true false v0 (Value.int .i64 (-1)) h fun v1 h =>
 CondW v1 (
 κ a0 h) (
 binB False Try.prog .add 3 true false v0 (Value.int .i64 (1)) h fun v2 h =>
 LoopR [undef, undef, undef, undef, undef, undef, undef, undef, undef, undef, undef, undef, undef, undef, undef, undef, undef, undef, undef, v0, undef, undef, v2] h fun l4 h N3 =>
 rs_90_1 a0 l4 a1 N3 h κ)) := by kernel_rfl

/-- latchstring/cache.Drop$1 -/
theorem rs_91 (a0 a1 : Value) (h : Heap) (κ : Value → Heap → Prop) : BodyW Try.prog 91 [a0, a1] h κ = (
 cellsK False (Value.cells a0).toList 30 false fun o0 => newBlock False o0 h fun b1 h =>
 fieldAddrB False 1 (ptrTo b1) h fun v2 h =>
 loadA False 2 v2 h fun v3 h =>
 loadA False 2 a1 h fun v4 h =>
 binB False Try.prog .eql 27 false false v3 v4 h fun v5 h =>
 κ v5 h) := by kernel_rfl

/-- latchstring/name.Check -/
theorem rs_97 (a0 : Value) (h : Heap) (κ : Value → Heap → Prop) : BodyW Try.prog 97 [a0] h κ = (
 cellsK False (Value.cells a0).toList 27 false fun o0 => newBlock False o0 h fun b1 h =>
 loadA False 2 (ptrTo b1) h fun v2 h =>
 CallW Try.prog 68 [v2] h fun v3 h =>
 binB False Try.prog .eql 3 true false v3 (Value.int .i64 (-1)) h fun v4 h =>
 CondW v4 (
 κ (Value.int .i64 (2)) h) (
 κ (Value.int .i64 (0)) h)) := by kernel_rfl

/-- latchstring/latchstringref02.Database -/
theorem rs_101 (h : Heap) (κ : Value → Heap → Prop) : BodyW Try.prog 101 [] h κ = (
 cellsK False [(Value.int .i64 (0)), (Value.int .i64 (0))] 27 false fun o0 => newBlock False o0 h fun b1 h =>
 fillB False [(0, 1), (1, 1)] [(Value.int .i64 (-1)), (Value.int .i64 (-1))] [(Value.int .i64 (0)), (Value.int .i64 (0))] fun cs2 =>
 storeV False 2 (ptrTo b1) (Value.agg (Array.mk cs2)) h fun v3 h =>
 loadA False 2 (ptrTo b1) h fun v4 _ => κ v4 h) := by kernel_rfl

/-- latchstring/name.Database -/
theorem rs_124 (h : Heap) (κ : Value → Heap → Prop) : BodyW Try.prog 124 [] h κ = (
 cellsK False [(Value.int .i64 (0)), (Value.int .i64 (0))] 27 false fun o0 => newBlock False o0 h fun b1 h =>
 fillB False [(0, 1), (1, 1)] [(Value.int .i64 (-1)), (Value.int .i64 (-1))] [(Value.int .i64 (0)), (Value.int .i64 (0))] fun cs2 =>
 storeV False 2 (ptrTo b1) (Value.agg (Array.mk cs2)) h fun v3 h =>
 loadA False 2 (ptrTo b1) h fun v4 _ => κ v4 h) := by kernel_rfl

/-- latchstring/name.within -/
theorem rs_125 (a0 : Value) (h : Heap) (κ : Value → Heap → Prop) : BodyW Try.prog 125 [a0] h κ = (
 binB False Try.prog .geq 3 true false a0 (Value.int .i64 (0)) h fun v0 h =>
 GuardW (wantV v0 true) (fun K1 =>
 K1 a0 h) h fun v2 h =>
 GuardW (wantV v0 true) (fun K3 =>
 binB False Try.prog .lss 3 true false v2 (Value.int .i64 (100)) h K3) h fun v4 h =>
 pickB False v0 v4 (Value.bool false) h fun v5 h =>
 κ v5 h) := by kernel_rfl

/-- latchstring/cache.at$1 -/
theorem rs_128 (a0 a1 : Value) (h : Heap) (κ : Value → Heap → Prop) : BodyW Try.prog 128 [a0, a1] h κ = (
 cellsK False (Value.cells a0).toList 30 false fun o0 => newBlock False o0 h fun b1 h =>
 fieldAddrB False 1 (ptrTo b1) h fun v2 h =>
 loadA False 2 v2 h fun v3 h =>
 loadA False 2 a1 h fun v4 h =>
 binB False Try.prog .eql 27 false false v3 v4 h fun v5 h =>
 κ v5 h) := by kernel_rfl

noncomputable def rs_129_0 (a0 : Value) (l2 : List Value) (N1 : List Value → Heap → Prop) (v3 : Value) (h : Heap) (κ : Value → Heap → Prop) : Prop :=
 indexAddrS False 1 a0 (slot l2 10) h fun v4 h =>
 load1 False v4 h fun v5 h =>
 binB False Try.prog .neq 3 false false v5 (Value.int .i64 (0)) h fun v6 h =>
 CondW v6 (
 κ v5 h) (
 binB False Try.prog .add 3 true false (slot l2 10) (Value.int .i64 (1)) h fun v7 h =>
 N1 [v3, v4, v5, v5, v5, (Value.int .i64 (0)), v6, (slot l2 7), (slot l2 8), v7, v7] h)

/-- cmp.Or[int] -/
theorem rs_129 (a0 : Value) (h : Heap) (κ : Value → Heap → Prop) : BodyW Try.prog 129 [a0] h κ = (
 lenSli False a0 h fun v0 h =>
 LoopR [undef, undef, undef, undef, undef, undef, undef, undef, (Value.int .i64 (0)), undef, (Value.int .i64 (0))] h fun l2 h N1 =>
 binB False Try.prog .lss 3 false false (slot l2 10) v0 h fun v3 h =>
 CondW v3 (
 rs_129_0 a0 l2 N1 v3 h κ) (
 κ (Value.int .i64 (0)) h)) := by kernel_rfl

noncomputable def rs_130_0 (a0 : Value) (a1 : Value) (h : Heap) (κ : Value → Heap → Prop) : Prop :=
 binB False Try.prog .lss 3 false false a0 a1 h fun v2 h =>
 CondW v2 (
 κ (Value.int .i64 (-1)) h) (
 binB False Try.prog .gtr 3 false false a0 a1 h fun v3 h =>
 CondW v3 (
 κ (Value.int .i64 (1)) h) (
 κ (Value.int .i64 (0)) h))

/-- cmp.Compare[int] -/
theorem rs_130 (a0 a1 : Value) (h : Heap) (κ : Value → Heap → Prop) : BodyW Try.prog 130 [a0, a1] h κ = (
 CallW Try.prog 141 [a0] h fun v0 h =>
 CallW Try.prog 141 [a1] h fun v1 h =>
 CondW v0 (
 CondW v1 (
 κ (Value.int .i64 (0)) h) (
 κ (Value.int .i64 (-1)) h)) (
 CondW v1 (
 κ (Value.int .i64 (1)) h) (
 rs_130_0 a0 a1 h κ))) := by kernel_rfl

/-- cmp.isNaN[int] -/
theorem rs_141 (a0 : Value) (h : Heap) (κ : Value → Heap → Prop) : BodyW Try.prog 141 [a0] h κ = (
 binB False Try.prog .neq 3 false false a0 a0 h fun v0 h =>
 κ v0 h) := by kernel_rfl

end Go.Proofs
