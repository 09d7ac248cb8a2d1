/-
  PROVED HERE: a part of the proof, by a calculus of weakest conditions over an abstract heap (RZ).
-/
import Derived.Test.YtmjghbjpdoeemaaDoorV4
import Derived.Test.YtmjghbjpdoeemaaDoorProg
import Derived.KernelRfl
set_option linter.unusedVariables false
set_option linter.unusedSimpArgs false
set_option maxRecDepth 100000
namespace Go.Proofs
open Go.Vai

noncomputable def rs_3_0 (a0 : Value) (l101 : List Value) (l105 : List Value) (N111 : List Value → Heap → Prop) (h : Heap) : Prop :=
 indexAddrS False 4 a0 (slot l101 42) h fun v113 h =>
 fieldAddrB False 2 v113 h fun v114 h =>
 load1 False v114 h fun v115 h =>
 indexAddrS False 5 v115 (slot l105 35) h fun v116 h =>
 fieldAddrB False 1 v116 h fun v117 h =>
 load1 False v117 h fun v118 h =>
 binB False Tryd.prog .lss 3 true false v118 (Value.int .i64 (0)) h fun v119 h =>
 GuardW (wantV v119 true) (fun K120 =>
 K120 a0 h) h fun v121 h =>
 GuardW (wantV v119 true) (fun K122 =>
 K122 (slot l101 42) h) h fun v123 h =>
 GuardW (wantV v119 true) (fun K124 =>
 indexAddrS False 4 v121 v123 h K124) h fun v125 h =>
 GuardW (wantV v119 true) (fun K126 =>
 fieldAddrB False 2 v125 h K126) h fun v127 h =>
 GuardW (wantV v119 true) (fun K128 =>
 load1 False v127 h K128) h fun v129 h =>
 GuardW (wantV v119 true) (fun K130 =>
 K130 (slot l105 35) h) h fun v131 h =>
 GuardW (wantV v119 true) (fun K132 =>
 indexAddrS False 5 v129 v131 h K132) h fun v133 h =>
 GuardW (wantV v119 true) (fun K134 =>
 fieldAddrB False 2 v133 h K134) h fun v135 h =>
 GuardW (wantV v119 true) (fun K136 =>
 load1 False v135 h K136) h fun v137 h =>
 GuardW (wantV v119 true) (fun K138 =>
 binB False Tryd.prog .neq 36 true false v137 (Value.int .i64 (0)) h K138) h fun v139 h =>
 pickB False v119 v139 (Value.bool false) h fun v140 h =>
 CondW v140 (
 binB False Tryd.prog .add 3 true false (slot l105 32) (Value.int .i64 (1)) h fun v141 h =>
 N111 [a0, (slot l101 42), v113, v114, v115, (slot l105 35), v116, v117, v118, v119, v119, v121, v123, v125, v127, v129, v131, v133, v135, v137, v139, v140, (slot l105 32), v141, v141] h) (
 N111 [a0, (slot l101 42), v113, v114, v115, (slot l105 35), v116, v117, v118, v119, v119, v121, v123, v125, v127, v129, v131, v133, v135, v137, v139, v140, (slot l105 30), (slot l105 31), (slot l105 32)] h)

noncomputable def rs_3_1 (a0 : Value) (l101 : List Value) (l105 : List Value) (N104 : List Value → Heap → Prop) (N100 : List Value → Heap → Prop) (v102 : Value) (v103 : Value) (h : Heap) : Prop :=
 indexAddrS False 4 a0 (slot l101 42) h fun v106 h =>
 fieldAddrB False 2 v106 h fun v107 h =>
 load1 False v107 h fun v108 h =>
 lenSli False v108 h fun v109 h =>
 binB False Tryd.prog .lss 3 false false (slot l105 35) v109 h fun v110 h =>
 CondW v110 (
 JoinR (fun N111 =>
 rs_3_0 a0 l101 l105 N111 h) fun l112 h =>
 binB False Tryd.prog .add 3 true false (slot l105 35) (Value.int .i64 (1)) h fun v142 h =>
 N104 [(slot l105 35), a0, (slot l101 42), v106, v107, v108, v109, v110, (slot l112 0), (slot l112 1), (slot l112 2), (slot l112 3), (slot l112 4), (slot l112 5), (slot l112 6), (slot l112 7), (slot l112 8), (slot l112 9), (slot l112 10), (slot l112 11), (slot l112 12), (slot l112 13), (slot l112 14), (slot l112 15), (slot l112 16), (slot l112 17), (slot l112 18), (slot l112 19), (slot l112 20), (slot l112 21), (slot l112 22), (slot l112 23), (slot l112 24), (slot l105 35), v142, v142] h) (
 binB False Tryd.prog .add 3 true false (slot l101 42) (Value.int .i64 (1)) h fun v143 h =>
 N100 [(slot l101 42), a0, v102, v103, (slot l105 35), a0, (slot l101 42), v106, v107, v108, v109, v110, (slot l105 8), (slot l105 9), (slot l105 10), (slot l105 11), (slot l105 12), (slot l105 13), (slot l105 14), (slot l105 15), (slot l105 16), (slot l105 17), (slot l105 18), (slot l105 19), (slot l105 20), (slot l105 21), (slot l105 22), (slot l105 23), (slot l105 24), (slot l105 25), (slot l105 26), (slot l105 27), (slot l105 28), (slot l105 29), (slot l105 30), (slot l105 31), (slot l105 32), (slot l105 33), (slot l105 34), (slot l105 35), (slot l101 42), v143, v143] h)

noncomputable def rs_3_2 (b1 : Nat) (v66 : Value) (v83 : Value) (a0 : Value) (l101 : List Value) (h : Heap) (κ : Value → Heap → Prop) : Prop :=
 loadA False 4 (ptrTo b1) h fun v144 h =>
 CallW Tryd.prog 8 [v66, v144] h fun v145 h =>
 unB False .not v145 h fun v146 h =>
 GuardW (wantV v146 true) (fun K147 =>
 K147 v83 h) h fun v148 h =>
 GuardW (wantV v146 true) (fun K149 =>
 loadA False 4 (ptrTo b1) h K149) h fun v150 h =>
 GuardW (wantV v146 true) (fun K151 =>
 CallW Tryd.prog 8 [v148, v150] h K151) h fun v152 h =>
 GuardW (wantV v146 true) (fun K153 =>
 unB False .not v152 h K153) h fun v154 h =>
 pickB False v146 v154 (Value.bool false) h fun v155 h =>
 GuardW (wantV v155 true) (fun K156 =>
 K156 a0 h) h fun v157 h =>
 GuardW (wantV v155 true) (fun K158 =>
 CallW Tryd.prog 11 [v157] h K158) h fun v159 h =>
 GuardW (wantV v155 true) (fun K160 =>
 lenSli False v159 h K160) h fun v161 h =>
 GuardW (wantV v155 true) (fun K162 =>
 K162 (slot l101 36) h) h fun v163 h =>
 GuardW (wantV v155 true) (fun K164 =>
 binB False Tryd.prog .eql 3 false false v161 v163 h K164) h fun v165 h =>
 pickB False v155 v165 (Value.bool false) h fun v166 h =>
 GuardW (wantV v166 true) (fun K167 =>
 K167 v83 h) h fun v168 h =>
 GuardW (wantV v166 true) (fun K169 =>
 CallW Tryd.prog 11 [v168] h K169) h fun v170 h =>
 GuardW (wantV v166 true) (fun K171 =>
 lenSli False v170 h K171) h fun v172 h =>
 GuardW (wantV v166 true) (fun K173 =>
 K173 (slot l101 36) h) h fun v174 h =>
 GuardW (wantV v166 true) (fun K175 =>
 binB False Tryd.prog .eql 3 false false v172 v174 h K175) h fun v176 h =>
 pickB False v166 v176 (Value.bool false) h fun v177 h =>
 κ v177 h

noncomputable def rs_3_3 (a0 : Value) (v14 : Value) (b1 : Nat) (h : Heap) (κ : Value → Heap → Prop) : Prop :=
 CallW Tryd.prog 7 [a0] h fun v66 h =>
 indexAddrS False 4 v66 v14 h fun v67 h =>
 loadA False 4 v67 h fun v68 h =>
 CallW Tryd.prog 10 [v68] h fun v69 h =>
 indexAddrS False 4 v66 v14 h fun v70 h =>
 storeV False 4 v70 v69 h fun v71 h =>
 indexAddrS False 4 v66 v14 h fun v72 h =>
 fieldAddrB False 2 v72 h fun v73 h =>
 load1 False v73 h fun v74 h =>
 fillB False [(0, 1), (1, 1), (3, 1), (4, 1)] [(Value.int .i64 (99)), (Value.int .i64 (-1)), (Value.int .i64 (3)), (Value.int .i64 (1))] [(Value.int .i64 (0)), (Value.int .i64 (0)), (Value.int .i64 (0)), (Value.int .i64 (0)), (Value.int .i64 (0))] fun cs75 =>
 fillB False [(0, 5)] [(Value.agg (Array.mk cs75))] (repeatL [(Value.int .i64 (0)), (Value.int .i64 (0)), (Value.int .i64 (0)), (Value.int .i64 (0)), (Value.int .i64 (0))] 1) fun cs78 => cellsK False cs78 38 false fun o76 => newBlock False o76 h fun b77 h =>
 appendB False 38 5 [(Value.int .i64 (0)), (Value.int .i64 (0)), (Value.int .i64 (0)), (Value.int .i64 (0)), (Value.int .i64 (0))] false v74 (sliceTo 1 1 b77) h fun v79 h =>
 indexAddrS False 4 v66 v14 h fun v80 h =>
 fieldAddrB False 2 v80 h fun v81 h =>
 storeV False 1 v81 v79 h fun v82 h =>
 CallW Tryd.prog 7 [a0] h fun v83 h =>
 indexAddrS False 4 v83 v14 h fun v84 h =>
 loadA False 4 v84 h fun v85 h =>
 CallW Tryd.prog 10 [v85] h fun v86 h =>
 indexAddrS False 4 v83 v14 h fun v87 h =>
 storeV False 4 v87 v86 h fun v88 h =>
 indexAddrS False 4 v83 v14 h fun v89 h =>
 fieldAddrB False 2 v89 h fun v90 h =>
 load1 False v90 h fun v91 h =>
 fillB False [(0, 1), (1, 1), (2, 1), (3, 1)] [(Value.int .i64 (99)), (Value.int .i64 (5)), (Value.int .i64 (1)), (Value.int .i64 (1))] [(Value.int .i64 (0)), (Value.int .i64 (0)), (Value.int .i64 (0)), (Value.int .i64 (0)), (Value.int .i64 (0))] fun cs92 =>
 fillB False [(0, 5)] [(Value.agg (Array.mk cs92))] (repeatL [(Value.int .i64 (0)), (Value.int .i64 (0)), (Value.int .i64 (0)), (Value.int .i64 (0)), (Value.int .i64 (0))] 1) fun cs95 => cellsK False cs95 38 false fun o93 => newBlock False o93 h fun b94 h =>
 appendB False 38 5 [(Value.int .i64 (0)), (Value.int .i64 (0)), (Value.int .i64 (0)), (Value.int .i64 (0)), (Value.int .i64 (0))] false v91 (sliceTo 1 1 b94) h fun v96 h =>
 indexAddrS False 4 v83 v14 h fun v97 h =>
 fieldAddrB False 2 v97 h fun v98 h =>
 storeV False 1 v98 v96 h fun v99 h =>
 LoopR [undef, undef, undef, undef, undef, undef, undef, undef, undef, undef, undef, undef, undef, undef, undef, undef, undef, undef, undef, undef, undef, undef, undef, undef, undef, undef, undef, undef, undef, undef, undef, undef, undef, undef, undef, undef, (Value.int .i64 (0)), undef, undef, undef, undef, undef, (Value.int .i64 (0))] h fun l101 h N100 =>
 lenSli False a0 h fun v102 h =>
 binB False Tryd.prog .lss 3 false false (slot l101 42) v102 h fun v103 h =>
 CondW v103 (
 LoopR [(slot l101 4), (slot l101 5), (slot l101 6), (slot l101 7), (slot l101 8), (slot l101 9), (slot l101 10), (slot l101 11), (slot l101 12), (slot l101 13), (slot l101 14), (slot l101 15), (slot l101 16), (slot l101 17), (slot l101 18), (slot l101 19), (slot l101 20), (slot l101 21), (slot l101 22), (slot l101 23), (slot l101 24), (slot l101 25), (slot l101 26), (slot l101 27), (slot l101 28), (slot l101 29), (slot l101 30), (slot l101 31), (slot l101 32), (slot l101 33), (slot l101 34), (slot l101 35), (slot l101 36), (slot l101 37), (slot l101 38), (Value.int .i64 (0))] h fun l105 h N104 =>
 rs_3_1 a0 l101 l105 N104 N100 v102 v103 h) (
 rs_3_2 b1 v66 v83 a0 l101 h κ)

noncomputable def rs_3_4 (a0 : Value) (a2 : Value) (b1 : Nat) (h : Heap) (κ : Value → Heap → Prop) : Prop :=
 lenSli False a0 h fun v13 h =>
 CallW Tryd.prog 6 [a2, v13] h fun v14 h =>
 RdK (some a0) h fun v15 h =>
 RdK (some v14) h fun v16 h =>
 RdK (sliceB none 33 4 v15 none (some v16) none h fun v _ => some v) h fun v17 h =>
 RdK (some a0) h fun v18 h =>
 RdK (some v14) h fun v19 h =>
 RdK (binB none Tryd.prog .add 3 true false v19 (Value.int .i64 (1)) h fun v _ => some v) h fun v20 h =>
 RdK (sliceB none 33 4 v18 (some v20) none none h fun v _ => some v) h fun v21 h =>
 CallW Tryd.prog 7 [v17] h fun v22 h =>
 SameK ((reV (some a0) v18) && ((reV (some v14) v19) && ((reV (binB none Tryd.prog .add 3 true false v19 (Value.int .i64 (1)) h fun v _ => some v) v20) && ((reV (sliceB none 33 4 v18 (some v20) none none h fun v _ => some v) v21) && true)))) (appendB False 33 4 [(Value.int .i64 (0)), (Value.int .i64 (0)), (Value.slice none 0 0), (Value.int .i64 (0))] false v22 v21 h fun v23 h =>
 loadA False 4 (ptrTo b1) h fun v24 h =>
 CallW Tryd.prog 8 [a0, v24] h fun v25 h =>
 GuardW (wantV v25 true) (fun K26 =>
 K26 v23 h) h fun v27 h =>
 GuardW (wantV v25 true) (fun K28 =>
 loadA False 4 (ptrTo b1) h K28) h fun v29 h =>
 GuardW (wantV v25 true) (fun K30 =>
 CallW Tryd.prog 8 [v27, v29] h K30) h fun v31 h =>
 GuardW (wantV v25 true) (fun K32 =>
 unB False .not v31 h K32) h fun v33 h =>
 GuardW (wantV v25 true) (fun K34 =>
 K34 v33 h) h fun v35 h =>
 GuardW (wantV v35 false) (fun K36 =>
 K36 a0 h) h fun v37 h =>
 GuardW (wantV v35 false) (fun K38 =>
 loadA False 4 (ptrTo b1) h K38) h fun v39 h =>
 GuardW (wantV v35 false) (fun K40 =>
 CallW Tryd.prog 9 [v37, v39] h K40) h fun v41 h =>
 GuardW (wantV v35 false) (fun K42 =>
 unB False .not v41 h K42) h fun v43 h =>
 GuardW (wantV v25 true) (fun K44 =>
 pickB False v35 (Value.bool true) v43 h K44) h fun v45 h =>
 pickB False v25 v45 (Value.bool false) h fun v46 h =>
 GuardW (wantV v46 false) (fun K47 =>
 K47 a0 h) h fun v48 h =>
 GuardW (wantV v46 false) (fun K49 =>
 loadA False 4 (ptrTo b1) h K49) h fun v50 h =>
 GuardW (wantV v46 false) (fun K51 =>
 CallW Tryd.prog 9 [v48, v50] h K51) h fun v52 h =>
 GuardW (wantV v46 false) (fun K53 =>
 K53 v52 h) h fun v54 h =>
 GuardW (wantV v54 true) (fun K55 =>
 K55 v23 h) h fun v56 h =>
 GuardW (wantV v54 true) (fun K57 =>
 loadA False 4 (ptrTo b1) h K57) h fun v58 h =>
 GuardW (wantV v54 true) (fun K59 =>
 CallW Tryd.prog 9 [v56, v58] h K59) h fun v60 h =>
 GuardW (wantV v54 true) (fun K61 =>
 unB False .not v60 h K61) h fun v62 h =>
 GuardW (wantV v46 false) (fun K63 =>
 pickB False v54 v62 (Value.bool false) h K63) h fun v64 h =>
 pickB False v46 (Value.bool true) v64 h fun v65 h =>
 CondW v65 (
 κ (Value.bool false) h) (
 rs_3_3 a0 v14 b1 h κ))

noncomputable def rs_3_5 (a0 : Value) (a2 : Value) (b1 : Nat) (h : Heap) (κ : Value → Heap → Prop) : Prop :=
 CallW Tryd.prog 5 [a0, (Value.int .i64 (20))] h fun v4 h =>
 unB False .not v4 h fun v5 h =>
 GuardW (wantV v5 false) (fun K6 =>
 K6 a0 h) h fun v7 h =>
 GuardW (wantV v5 false) (fun K8 =>
 lenSli False v7 h K8) h fun v9 h =>
 GuardW (wantV v5 false) (fun K10 =>
 binB False Tryd.prog .eql 3 true false v9 (Value.int .i64 (0)) h K10) h fun v11 h =>
 pickB False v5 (Value.bool true) v11 h fun v12 h =>
 CondW v12 (
 κ (Value.bool true) h) (
 rs_3_4 a0 a2 b1 h κ)

/-- latchstring/latchstringlaw29.DrainParts -/
theorem rs_3 (a0 a1 a2 : Value) (h : Heap) (κ : Value → Heap → Prop) : BodyW Tryd.prog 3 [a0, a1, a2] h κ = (
 cellsK False (Value.cells a1).toList 24 false fun o0 => newBlock False o0 h fun b1 h =>
 CallW Tryd.prog 4 [] h fun v2 h =>
 unB False .not v2 h fun v3 h =>
 CondW v3 (
 κ (Value.bool false) h) (
 rs_3_5 a0 a2 b1 h κ)) := by kernel_rfl

noncomputable def rs_5_0 (a0 : Value) (l3 : List Value) (N2 : List Value → Heap → Prop) (v4 : Value) (v5 : Value) (h : Heap) (κ : Value → Heap → Prop) : Prop :=
 indexAddrS False 4 a0 (slot l3 14) h fun v6 h =>
 fieldAddrB False 2 v6 h fun v7 h =>
 load1 False v7 h fun v8 h =>
 lenSli False v8 h fun v9 h =>
 binB False Tryd.prog .gtr 3 true false v9 (Value.int .i64 (12)) h fun v10 h =>
 CondW v10 (
 κ (Value.bool false) h) (
 binB False Tryd.prog .add 3 true false (slot l3 14) (Value.int .i64 (1)) h fun v11 h =>
 N2 [(slot l3 14), a0, v4, v5, a0, (slot l3 14), v6, v7, v8, v9, v10, (slot l3 11), (slot l3 14), v11, v11] h)

/-- latchstring/latchstringkit.LightHeads -/
theorem rs_5 (a0 a1 : Value) (h : Heap) (κ : Value → Heap → Prop) : BodyW Tryd.prog 5 [a0, a1] h κ = (
 lenSli False a0 h fun v0 h =>
 binB False Tryd.prog .gtr 3 false false v0 a1 h fun v1 h =>
 CondW v1 (
 κ (Value.bool false) h) (
 LoopR [undef, undef, undef, undef, undef, undef, undef, undef, undef, undef, undef, (Value.bool false), undef, undef, (Value.int .i64 (0))] h fun l3 h N2 =>
 lenSli False a0 h fun v4 h =>
 binB False Tryd.prog .lss 3 false false (slot l3 14) v4 h fun v5 h =>
 CondW v5 (
 rs_5_0 a0 l3 N2 v4 v5 h κ) (
 κ (Value.bool true) h))) := by kernel_rfl

noncomputable def rs_6_0 (a0 : Value) (a1 : Value) (h : Heap) (κ : Value → Heap → Prop) : Prop :=
 binB False Tryd.prog .rem 3 false false a0 a1 h fun v1 h =>
 JoinR (fun N2 =>
 binB False Tryd.prog .lss 3 true false v1 (Value.int .i64 (0)) h fun v4 h =>
 CondW v4 (
 binB False Tryd.prog .add 3 false false v1 a1 h fun v5 h =>
 N2 [v1, v4, v1, a1, v5, v5] h) (
 N2 [v1, v4, undef, undef, undef, v1] h)) fun l3 h =>
 κ (slot l3 5) h

/-- latchstring/latchstringkit.Pick -/
theorem rs_6 (a0 a1 : Value) (h : Heap) (κ : Value → Heap → Prop) : BodyW Tryd.prog 6 [a0, a1] h κ = (
 binB False Tryd.prog .lss 3 true false a1 (Value.int .i64 (1)) h fun v0 h =>
 CondW v0 (
 κ (Value.int .i64 (0)) h) (
 rs_6_0 a0 a1 h κ)) := by kernel_rfl

/-- latchstring/latchstringkit.Own[latchstring/api.Head] -/
theorem rs_7 (a0 : Value) (h : Heap) (κ : Value → Heap → Prop) : BodyW Tryd.prog 7 [a0] h κ = (
 fillB False [] [] (repeatL [(Value.int .i64 (0)), (Value.int .i64 (0)), (Value.slice none 0 0), (Value.int .i64 (0))] 0) fun cs2 => cellsK False cs2 33 false fun o0 => newBlock False o0 h fun b1 h =>
 appendB False 33 4 [(Value.int .i64 (0)), (Value.int .i64 (0)), (Value.slice none 0 0), (Value.int .i64 (0))] false (sliceTo 0 0 b1) a0 h fun v3 h =>
 κ v3 h) := by kernel_rfl

noncomputable def rs_8_0 (b22 : Nat) (b3 : Nat) (l17 : List Value) (N16 : List Value → Heap → Prop) (v18 : Value) (v19 : Value) (v20 : Value) (v24 : Value) (v25 : Value) (v26 : Value) (v28 : Value) (v30 : Value) (v32 : Value) (v33 : Value) (v35 : Value) (v37 : Value) (v39 : Value) (v41 : Value) (v43 : Value) (v45 : Value) (v46 : Value) (h : Heap) : Prop :=
 fieldAddrB False 1 (ptrTo b22) h fun v47 h =>
 load1 False v47 h fun v48 h =>
 lookupB False Tryd.prog 3 (Value.int .i64 (0)) false (mapTo b3) v48 h fun v49 h =>
 binB False Tryd.prog .add 3 true false v49 (Value.int .i64 (1)) h fun v50 h =>
 mapUpdateB False Tryd.prog 3 (mapTo b3) v48 v50 h fun v51 h =>
 binB False Tryd.prog .add 3 true false (slot l17 27) (Value.int .i64 (1)) h fun v52 h =>
 N16 [v18, v19, v20, (ptrTo b22), v24, v25, v26, v26, v28, v30, v32, v33, v33, v35, v37, v39, v41, v43, v45, v46, (slot l17 20), (mapTo b3), v47, v48, v49, v50, v52, v52] h

noncomputable def rs_8_1 (v14 : Value) (l17 : List Value) (b11 : Nat) (b3 : Nat) (N16 : List Value → Heap → Prop) (v18 : Value) (h : Heap) (κ : Value → Heap → Prop) : Prop :=
 indexAddrS False 5 v14 (slot l17 27) h fun v19 h =>
 loadA False 5 v19 h fun v20 h =>
 cellsK False [(Value.int .i64 (0)), (Value.int .i64 (0)), (Value.int .i64 (0)), (Value.int .i64 (0)), (Value.int .i64 (0))] 38 false fun o21 => newBlock False o21 h fun b22 h =>
 storeV False 5 (ptrTo b22) v20 h fun v23 h =>
 fieldAddrB False 4 (ptrTo b22) h fun v24 h =>
 load1 False v24 h fun v25 h =>
 binB False Tryd.prog .gtr 3 true false v25 (Value.int .i64 (0)) h fun v26 h =>
 GuardW (wantV v26 false) (fun K27 =>
 fieldAddrB False 1 (ptrTo b22) h K27) h fun v28 h =>
 GuardW (wantV v26 false) (fun K29 =>
 load1 False v28 h K29) h fun v30 h =>
 GuardW (wantV v26 false) (fun K31 =>
 binB False Tryd.prog .geq 3 true false v30 (Value.int .i64 (0)) h K31) h fun v32 h =>
 pickB False v26 (Value.bool true) v32 h fun v33 h =>
 GuardW (wantV v33 false) (fun K34 =>
 fieldAddrB False 0 (ptrTo b11) h K34) h fun v35 h =>
 GuardW (wantV v33 false) (fun K36 =>
 loadA False 2 v35 h K36) h fun v37 h =>
 GuardW (wantV v33 false) (fun K38 =>
 fieldAddrB False 2 (ptrTo b22) h K38) h fun v39 h =>
 GuardW (wantV v33 false) (fun K40 =>
 load1 False v39 h K40) h fun v41 h =>
 GuardW (wantV v33 false) (fun K42 =>
 CallW Tryd.prog 14 [v37, v41] h K42) h fun v43 h =>
 GuardW (wantV v33 false) (fun K44 =>
 unB False .not v43 h K44) h fun v45 h =>
 pickB False v33 (Value.bool true) v45 h fun v46 h =>
 CondW v46 (
 κ (Value.bool false) h) (
 rs_8_0 b22 b3 l17 N16 v18 v19 v20 v24 v25 v26 v28 v30 v32 v33 v35 v37 v39 v41 v43 v45 v46 h)

noncomputable def rs_8_2 (a0 : Value) (l6 : List Value) (b3 : Nat) (N5 : List Value → Heap → Prop) (v7 : Value) (h : Heap) (κ : Value → Heap → Prop) : Prop :=
 indexAddrS False 4 a0 (slot l6 36) h fun v8 h =>
 loadA False 4 v8 h fun v9 h =>
 cellsK False [(Value.int .i64 (0)), (Value.int .i64 (0)), (Value.slice none 0 0), (Value.int .i64 (0))] 33 false fun o10 => newBlock False o10 h fun b11 h =>
 storeV False 4 (ptrTo b11) v9 h fun v12 h =>
 fieldAddrB False 2 (ptrTo b11) h fun v13 h =>
 load1 False v13 h fun v14 h =>
 lenSli False v14 h fun v15 h =>
 LoopR [(slot l6 7), (slot l6 8), (slot l6 9), (slot l6 10), (slot l6 11), (slot l6 12), (slot l6 13), (slot l6 14), (slot l6 15), (slot l6 16), (slot l6 17), (slot l6 18), (slot l6 19), (slot l6 20), (slot l6 21), (slot l6 22), (slot l6 23), (slot l6 24), (slot l6 25), (slot l6 26), (slot l6 27), (slot l6 28), (slot l6 29), (slot l6 30), (slot l6 31), (slot l6 32), (slot l6 33), (Value.int .i64 (0))] h fun l17 h N16 =>
 binB False Tryd.prog .lss 3 false false (slot l17 27) v15 h fun v18 h =>
 CondW v18 (
 rs_8_1 v14 l17 b11 b3 N16 v18 h κ) (
 binB False Tryd.prog .add 3 true false (slot l6 36) (Value.int .i64 (1)) h fun v53 h =>
 N5 [v7, v8, v9, (ptrTo b11), v13, v14, v15, v18, (slot l17 1), (slot l17 2), (slot l17 3), (slot l17 4), (slot l17 5), (slot l17 6), (slot l17 7), (slot l17 8), (slot l17 9), (slot l17 10), (slot l17 11), (slot l17 12), (slot l17 13), (slot l17 14), (slot l17 15), (slot l17 16), (slot l17 17), (slot l17 18), (slot l17 19), (slot l17 20), (slot l17 21), (slot l17 22), (slot l17 23), (slot l17 24), (slot l17 25), (slot l17 26), (slot l17 27), v53, v53] h)

noncomputable def rs_8_3 (a0 : Value) (b1 : Nat) (b3 : Nat) (h : Heap) (κ : Value → Heap → Prop) : Prop :=
 RdK (some a0) h fun v54 h =>
 RdK (loadA none 4 (ptrTo b1) h fun v _ => some v) h fun v55 h =>
 CallW Tryd.prog 9 [v54, v55] h fun v56 h =>
 RdK (some v56) h fun v57 h =>
 GuardW (wantV v57 true) (fun K58 =>
 RdK (some (mapTo b3)) h K58) h fun v59 h =>
 GuardW (wantV v57 true) (fun K60 =>
 RdK (lenMap none v59 h fun v _ => some v) h K60) h fun v61 h =>
 GuardW (wantV v57 true) (fun K62 =>
 RdK (binB none Tryd.prog .eql 3 true false v61 (Value.int .i64 (0)) h fun v _ => some v) h K62) h fun v63 h =>
 GuardW (wantV v57 true) (fun K64 =>
 RdK (some v63) h K64) h fun v65 h =>
 GuardW (wantV v65 false) (fun K66 =>
 RdK (some (mapTo b3)) h K66) h fun v67 h =>
 GuardW (wantV v65 false) (fun K68 =>
 RdK (fieldAddrB none 3 (ptrTo b1) h fun v _ => some v) h K68) h fun v69 h =>
 GuardW (wantV v65 false) (fun K70 =>
 RdK (load1 none v69 h fun v _ => some v) h K70) h fun v71 h =>
 GuardW (wantV v65 false) (fun K72 =>
 CallW Tryd.prog 15 [v67] h fun v73 h =>
 SameK ((reG (wantV v65 false) (reV (fieldAddrB none 3 (ptrTo b1) h fun v _ => some v) v69)) && ((reG (wantV v65 false) (reV (load1 none v69 h fun v _ => some v) v71)) && true)) (K72 v73 h)) h fun v74 h =>
 GuardW (wantV v65 false) (fun K75 =>
 RdK (binB none Tryd.prog .leq 3 false false v74 v71 h fun v _ => some v) h K75) h fun v76 h =>
 GuardW (wantV v57 true) (fun K77 =>
 RdK (pickB none v65 (Value.bool true) v76 h fun v _ => some v) h K77) h fun v78 h =>
 RdK (pickB none v57 v78 (Value.bool false) h fun v _ => some v) h fun v79 h =>
 κ v79 h

/-- latchstring/drain.Drained -/
theorem rs_8 (a0 a1 : Value) (h : Heap) (κ : Value → Heap → Prop) : BodyW Tryd.prog 8 [a0, a1] h κ = (
 cellsK False (Value.cells a1).toList 24 false fun o0 => newBlock False o0 h fun b1 h =>
 newBlock False (.map [] 0) h fun b3 h =>
 lenSli False a0 h fun v4 h =>
 LoopR [undef, undef, undef, undef, undef, undef, undef, undef, undef, undef, undef, undef, undef, undef, undef, undef, undef, undef, undef, undef, undef, undef, undef, undef, undef, undef, undef, (Value.bool false), undef, undef, undef, undef, undef, undef, undef, undef, (Value.int .i64 (0))] h fun l6 h N5 =>
 binB False Tryd.prog .lss 3 false false (slot l6 36) v4 h fun v7 h =>
 CondW v7 (
 rs_8_2 a0 l6 b3 N5 v7 h κ) (
 rs_8_3 a0 b1 b3 h κ)) := by kernel_rfl

noncomputable def rs_9_0 (a0 : Value) (l6 : List Value) (b1 : Nat) (b3 : Nat) (N8 : List Value → Heap → Prop) (h : Heap) : Prop :=
 indexAddrS False 4 a0 (slot l6 23) h fun v10 h =>
 loadA False 4 v10 h fun v11 h =>
 cellsK False [(Value.int .i64 (0)), (Value.int .i64 (0)), (Value.slice none 0 0), (Value.int .i64 (0))] 33 false fun o12 => newBlock False o12 h fun b13 h =>
 storeV False 4 (ptrTo b13) v11 h fun v14 h =>
 fieldAddrB False 2 (ptrTo b13) h fun v15 h =>
 load1 False v15 h fun v16 h =>
 lenSli False v16 h fun v17 h =>
 binB False Tryd.prog .add 3 false false (slot l6 9) v17 h fun v18 h =>
 fieldAddrB False 0 (ptrTo b13) h fun v19 h =>
 loadA False 2 v19 h fun v20 h =>
 fieldAddrB False 0 (ptrTo b1) h fun v21 h =>
 load1 False v21 h fun v22 h =>
 CallW Tryd.prog 16 [v20, v22] h fun v23 h =>
 binB False Tryd.prog .geq 3 true false v23 (Value.int .i64 (0)) h fun v24 h =>
 CondW v24 (
 lookupB False Tryd.prog 3 (Value.int .i64 (0)) false (mapTo b3) v23 h fun v25 h =>
 binB False Tryd.prog .add 3 true false v25 (Value.int .i64 (1)) h fun v26 h =>
 mapUpdateB False Tryd.prog 3 (mapTo b3) v23 v26 h fun v27 h =>
 N8 [v10, v11, (ptrTo b13), (slot l6 9), v15, v16, v17, v18, v18, v19, v20, v21, v22, v23, v23, v23, v24, (mapTo b3), v23, v25, v26] h) (
 N8 [v10, v11, (ptrTo b13), (slot l6 9), v15, v16, v17, v18, v18, v19, v20, v21, v22, v23, v23, v23, v24, (slot l6 18), (slot l6 19), (slot l6 20), (slot l6 21)] h)

noncomputable def rs_9_1 (l6 : List Value) (b1 : Nat) (b3 : Nat) (h : Heap) (κ : Value → Heap → Prop) : Prop :=
 RdK (some (slot l6 9)) h fun v29 h =>
 RdK (fieldAddrB none 2 (ptrTo b1) h fun v _ => some v) h fun v30 h =>
 RdK (load1 none v30 h fun v _ => some v) h fun v31 h =>
 RdK (binB none Tryd.prog .leq 3 false false v29 v31 h fun v _ => some v) h fun v32 h =>
 RdK (some v32) h fun v33 h =>
 GuardW (wantV v33 true) (fun K34 =>
 RdK (some (mapTo b3)) h K34) h fun v35 h =>
 GuardW (wantV v33 true) (fun K36 =>
 RdK (lenMap none v35 h fun v _ => some v) h K36) h fun v37 h =>
 GuardW (wantV v33 true) (fun K38 =>
 RdK (binB none Tryd.prog .eql 3 true false v37 (Value.int .i64 (0)) h fun v _ => some v) h K38) h fun v39 h =>
 GuardW (wantV v33 true) (fun K40 =>
 RdK (some v39) h K40) h fun v41 h =>
 GuardW (wantV v41 false) (fun K42 =>
 RdK (some (mapTo b3)) h K42) h fun v43 h =>
 GuardW (wantV v41 false) (fun K44 =>
 RdK (fieldAddrB none 1 (ptrTo b1) h fun v _ => some v) h K44) h fun v45 h =>
 GuardW (wantV v41 false) (fun K46 =>
 RdK (load1 none v45 h fun v _ => some v) h K46) h fun v47 h =>
 GuardW (wantV v41 false) (fun K48 =>
 CallW Tryd.prog 15 [v43] h fun v49 h =>
 SameK ((reG (wantV v41 false) (reV (fieldAddrB none 1 (ptrTo b1) h fun v _ => some v) v45)) && ((reG (wantV v41 false) (reV (load1 none v45 h fun v _ => some v) v47)) && true)) (K48 v49 h)) h fun v50 h =>
 GuardW (wantV v41 false) (fun K51 =>
 RdK (binB none Tryd.prog .leq 3 false false v50 v47 h fun v _ => some v) h K51) h fun v52 h =>
 GuardW (wantV v33 true) (fun K53 =>
 RdK (pickB none v41 (Value.bool true) v52 h fun v _ => some v) h K53) h fun v54 h =>
 RdK (pickB none v33 v54 (Value.bool false) h fun v _ => some v) h fun v55 h =>
 κ v55 h

noncomputable def rs_9_2 (l6 : List Value) (v4 : Value) (a0 : Value) (b1 : Nat) (b3 : Nat) (N5 : List Value → Heap → Prop) (h : Heap) (κ : Value → Heap → Prop) : Prop :=
 binB False Tryd.prog .lss 3 false false (slot l6 23) v4 h fun v7 h =>
 CondW v7 (
 JoinR (fun N8 =>
 rs_9_0 a0 l6 b1 b3 N8 h) fun l9 h =>
 binB False Tryd.prog .add 3 true false (slot l6 23) (Value.int .i64 (1)) h fun v28 h =>
 N5 [v7, (slot l9 0), (slot l9 1), (slot l9 2), (slot l9 3), (slot l9 4), (slot l9 5), (slot l9 6), (slot l9 7), (slot l9 8), (slot l9 9), (slot l9 10), (slot l9 11), (slot l9 12), (slot l9 13), (slot l9 14), (slot l9 15), (slot l9 16), (slot l9 17), (slot l9 18), (slot l9 19), (slot l9 20), v28, v28] h) (
 rs_9_1 l6 b1 b3 h κ)

/-- latchstring/drain.Within -/
theorem rs_9 (a0 a1 : Value) (h : Heap) (κ : Value → Heap → Prop) : BodyW Tryd.prog 9 [a0, a1] h κ = (
 cellsK False (Value.cells a1).toList 24 false fun o0 => newBlock False o0 h fun b1 h =>
 newBlock False (.map [] 0) h fun b3 h =>
 lenSli False a0 h fun v4 h =>
 LoopR [undef, undef, undef, undef, undef, undef, undef, undef, undef, (Value.int .i64 (0)), undef, undef, undef, undef, undef, undef, undef, undef, undef, undef, undef, undef, undef, (Value.int .i64 (0))] h fun l6 h N5 =>
 rs_9_2 l6 v4 a0 b1 b3 N5 h κ) := by kernel_rfl

/-- latchstring/latchstringkit.OwnHead -/
theorem rs_10 (a0 : Value) (h : Heap) (κ : Value → Heap → Prop) : BodyW Tryd.prog 10 [a0] h κ = (
 cellsK False (Value.cells a0).toList 33 false fun o0 => newBlock False o0 h fun b1 h =>
 cellsK False [(Value.int .i64 (0)), (Value.int .i64 (0)), (Value.slice none 0 0), (Value.int .i64 (0))] 33 false fun o2 => newBlock False o2 h fun b3 h =>
 fieldAddrB False 2 (ptrTo b1) h fun v4 h =>
 load1 False v4 h fun v5 h =>
 CallW Tryd.prog 17 [v5] h fun v6 h =>
 fieldAddrB False 2 (ptrTo b1) h fun v7 h =>
 storeV False 1 v7 v6 h fun v8 h =>
 loadA False 4 (ptrTo b1) h fun v9 h =>
 storeV False 4 (ptrTo b3) v9 h fun v10 h =>
 loadA False 4 (ptrTo b3) h fun v11 _ => κ v11 h) := by kernel_rfl

noncomputable def rs_11_0 (b20 : Nat) (b7 : Nat) (l13 : List Value) (N15 : List Value → Heap → Prop) (v17 : Value) (v18 : Value) (v22 : Value) (v23 : Value) (v24 : Value) (v26 : Value) (v28 : Value) (v30 : Value) (v31 : Value) (h : Heap) : Prop :=
 fieldAddrB False 1 (ptrTo b20) h fun v32 h =>
 load1 False v32 h fun v33 h =>
 fieldAddrB False 0 (ptrTo b7) h fun v34 h =>
 loadA False 2 v34 h fun v35 h =>
 fieldAddrB False 2 (ptrTo b20) h fun v36 h =>
 load1 False v36 h fun v37 h =>
 fillB False [(0, 1), (1, 2), (3, 1)] [v33, v35, v37] [(Value.int .i64 (0)), (Value.int .i64 (0)), (Value.int .i64 (0)), (Value.int .i64 (0))] fun cs38 =>
 fillB False [(0, 4)] [(Value.agg (Array.mk cs38))] (repeatL [(Value.int .i64 (0)), (Value.int .i64 (0)), (Value.int .i64 (0)), (Value.int .i64 (0))] 1) fun cs41 => cellsK False cs41 50 false fun o39 => newBlock False o39 h fun b40 h =>
 appendB False 50 4 [(Value.int .i64 (0)), (Value.int .i64 (0)), (Value.int .i64 (0)), (Value.int .i64 (0))] false (slot l13 22) (sliceTo 1 1 b40) h fun v42 h =>
 N15 [v17, v18, (ptrTo b20), v22, v23, v24, v24, v26, v28, v30, v31, (slot l13 22), v32, v33, v34, v35, v36, v37, (Value.agg (Array.mk cs38)), (sliceTo 1 1 b40), v42, v42] h

noncomputable def rs_11_1 (v10 : Value) (l13 : List Value) (b7 : Nat) (N15 : List Value → Heap → Prop) (h : Heap) : Prop :=
 indexAddrS False 5 v10 (slot l13 24) h fun v17 h =>
 loadA False 5 v17 h fun v18 h =>
 cellsK False [(Value.int .i64 (0)), (Value.int .i64 (0)), (Value.int .i64 (0)), (Value.int .i64 (0)), (Value.int .i64 (0))] 38 false fun o19 => newBlock False o19 h fun b20 h =>
 storeV False 5 (ptrTo b20) v18 h fun v21 h =>
 fieldAddrB False 1 (ptrTo b20) h fun v22 h =>
 load1 False v22 h fun v23 h =>
 binB False Tryd.prog .lss 3 true false v23 (Value.int .i64 (0)) h fun v24 h =>
 GuardW (wantV v24 true) (fun K25 =>
 fieldAddrB False 2 (ptrTo b20) h K25) h fun v26 h =>
 GuardW (wantV v24 true) (fun K27 =>
 load1 False v26 h K27) h fun v28 h =>
 GuardW (wantV v24 true) (fun K29 =>
 binB False Tryd.prog .neq 36 true false v28 (Value.int .i64 (0)) h K29) h fun v30 h =>
 pickB False v24 v30 (Value.bool false) h fun v31 h =>
 CondW v31 (
 rs_11_0 b20 b7 l13 N15 v17 v18 v22 v23 v24 v26 v28 v30 v31 h) (
 N15 [v17, v18, (ptrTo b20), v22, v23, v24, v24, v26, v28, v30, v31, (slot l13 12), (slot l13 13), (slot l13 14), (slot l13 15), (slot l13 16), (slot l13 17), (slot l13 18), (slot l13 19), (slot l13 20), (slot l13 21), (slot l13 22)] h)

noncomputable def rs_11_2 (l13 : List Value) (v11 : Value) (v10 : Value) (b7 : Nat) (N12 : List Value → Heap → Prop) (l2 : List Value) (N1 : List Value → Heap → Prop) (v3 : Value) (v4 : Value) (v5 : Value) (v9 : Value) (h : Heap) : Prop :=
 binB False Tryd.prog .lss 3 false false (slot l13 24) v11 h fun v14 h =>
 CondW v14 (
 JoinR (fun N15 =>
 rs_11_1 v10 l13 b7 N15 h) fun l16 h =>
 binB False Tryd.prog .add 3 true false (slot l13 24) (Value.int .i64 (1)) h fun v43 h =>
 N12 [v14, (slot l16 0), (slot l16 1), (slot l16 2), (slot l16 3), (slot l16 4), (slot l16 5), (slot l16 6), (slot l16 7), (slot l16 8), (slot l16 9), (slot l16 10), (slot l16 11), (slot l16 12), (slot l16 13), (slot l16 14), (slot l16 15), (slot l16 16), (slot l16 17), (slot l16 18), (slot l16 19), (slot l16 20), (slot l16 21), v43, v43] h) (
 binB False Tryd.prog .add 3 true false (slot l2 33) (Value.int .i64 (1)) h fun v44 h =>
 N1 [v3, v4, v5, (ptrTo b7), v9, v10, v11, v14, (slot l13 1), (slot l13 2), (slot l13 3), (slot l13 4), (slot l13 5), (slot l13 6), (slot l13 7), (slot l13 8), (slot l13 9), (slot l13 10), (slot l13 11), (slot l13 12), (slot l13 13), (slot l13 14), (slot l13 15), (slot l13 16), (slot l13 17), (slot l13 18), (slot l13 19), (slot l13 20), (slot l13 21), (slot l13 22), (slot l13 23), (slot l13 24), v44, v44] h)

noncomputable def rs_11_3 (a0 : Value) (l2 : List Value) (N1 : List Value → Heap → Prop) (v3 : Value) (h : Heap) : Prop :=
 indexAddrS False 4 a0 (slot l2 33) h fun v4 h =>
 loadA False 4 v4 h fun v5 h =>
 cellsK False [(Value.int .i64 (0)), (Value.int .i64 (0)), (Value.slice none 0 0), (Value.int .i64 (0))] 33 false fun o6 => newBlock False o6 h fun b7 h =>
 storeV False 4 (ptrTo b7) v5 h fun v8 h =>
 fieldAddrB False 2 (ptrTo b7) h fun v9 h =>
 load1 False v9 h fun v10 h =>
 lenSli False v10 h fun v11 h =>
 LoopR [(slot l2 7), (slot l2 8), (slot l2 9), (slot l2 10), (slot l2 11), (slot l2 12), (slot l2 13), (slot l2 14), (slot l2 15), (slot l2 16), (slot l2 17), (slot l2 18), (slot l2 19), (slot l2 20), (slot l2 21), (slot l2 22), (slot l2 23), (slot l2 24), (slot l2 25), (slot l2 26), (slot l2 27), (slot l2 28), (slot l2 29), (slot l2 30), (Value.int .i64 (0))] h fun l13 h N12 =>
 rs_11_2 l13 v11 v10 b7 N12 l2 N1 v3 v4 v5 v9 h

/-- latchstring/drain.Pooled -/
theorem rs_11 (a0 : Value) (h : Heap) (κ : Value → Heap → Prop) : BodyW Tryd.prog 11 [a0] h κ = (
 lenSli False a0 h fun v0 h =>
 LoopR [undef, undef, undef, undef, undef, undef, undef, undef, undef, undef, undef, undef, undef, undef, undef, undef, undef, undef, undef, undef, undef, undef, undef, undef, undef, undef, undef, undef, undef, (Value.slice none 0 0), undef, undef, undef, (Value.int .i64 (0))] h fun l2 h N1 =>
 binB False Tryd.prog .lss 3 false false (slot l2 33) v0 h fun v3 h =>
 CondW v3 (
 rs_11_3 a0 l2 N1 v3 h) (
 CallW Tryd.prog 18 [(slot l2 29), (Value.func (.func 19) (Array.mk []) (Array.mk []))] h fun v45 h =>
 κ (slot l2 29) h)) := by kernel_rfl

/-- latchstring/pass.Eligible -/
theorem rs_14 (a0 a1 : Value) (h : Heap) (κ : Value → Heap → Prop) : BodyW Tryd.prog 14 [a0, a1] h κ = (
 cellsK False (Value.cells a0).toList 30 false fun o0 => newBlock False o0 h fun b1 h =>
 loadA False 2 (ptrTo b1) h fun v2 h =>
 CallW Tryd.prog 24 [v2] h fun v3 h =>
 binB False Tryd.prog .eql 3 true false v3 (Value.int .i64 (0)) h fun v4 h =>
 GuardW (wantV v4 false) (fun K5 =>
 K5 v3 h) h fun v6 h =>
 GuardW (wantV v4 false) (fun K7 =>
 binB False Tryd.prog .eql 3 true false v6 (Value.int .i64 (1)) h K7) h fun v8 h =>
 pickB False v4 (Value.bool true) v8 h fun v9 h =>
 GuardW (wantV v9 true) (fun K10 =>
 K10 a1 h) h fun v11 h =>
 GuardW (wantV v9 true) (fun K12 =>
 binB False Tryd.prog .eql 36 true false v11 (Value.int .i64 (1)) h K12) h fun v13 h =>
 GuardW (wantV v9 true) (fun K14 =>
 K14 v13 h) h fun v15 h =>
 GuardW (wantV v15 false) (fun K16 =>
 K16 a1 h) h fun v17 h =>
 GuardW (wantV v15 false) (fun K18 =>
 binB False Tryd.prog .eql 36 true false v17 (Value.int .i64 (2)) h K18) h fun v19 h =>
 GuardW (wantV v9 true) (fun K20 =>
 pickB False v15 (Value.bool true) v19 h K20) h fun v21 h =>
 GuardW (wantV v9 true) (fun K22 =>
 K22 v21 h) h fun v23 h =>
 GuardW (wantV v23 false) (fun K24 =>
 K24 a1 h) h fun v25 h =>
 GuardW (wantV v23 false) (fun K26 =>
 binB False Tryd.prog .eql 36 true false v25 (Value.int .i64 (3)) h K26) h fun v27 h =>
 GuardW (wantV v9 true) (fun K28 =>
 pickB False v23 (Value.bool true) v27 h K28) h fun v29 h =>
 pickB False v9 v29 (Value.bool false) h fun v30 h =>
 κ v30 h) := by kernel_rfl

noncomputable def rs_15_0 (v0 : Value) (l2 : List Value) (N1 : List Value → Heap → Prop) (h : Heap) (κ : Value → Heap → Prop) : Prop :=
 nextB False And v0 h fun v3 h =>
 extractB False 0 v3 h fun v4 h =>
 CondW v4 (
 entryB False v0 h fun v5 h =>
 extractB False 1 v5 h fun v6 h =>
 maxB False (slot l2 8) v6 h fun v7 h =>
 N1 [v3, v4, v5, v6, v6, (slot l2 8), v6, v7, v7] h) (
 κ (slot l2 8) h)

/-- latchstring/drain.greatest[int] -/
theorem rs_15 (a0 : Value) (h : Heap) (κ : Value → Heap → Prop) : BodyW Tryd.prog 15 [a0] h κ = (
 rangeB False a0 h fun v0 h =>
 LoopR [undef, undef, undef, undef, undef, undef, undef, undef, (Value.int .i64 (0))] h fun l2 h N1 =>
 rs_15_0 v0 l2 N1 h κ) := by kernel_rfl

/-- latchstring/stripe.Of -/
theorem rs_16 (a0 a1 : Value) (h : Heap) (κ : Value → Heap → Prop) : BodyW Tryd.prog 16 [a0, a1] h κ = (
 cellsK False (Value.cells a0).toList 30 false fun o0 => newBlock False o0 h fun b1 h =>
 CallW Tryd.prog 25 [a1] h fun v2 h =>
 unB False .not v2 h fun v3 h =>
 GuardW (wantV v3 false) (fun K4 =>
 loadA False 2 (ptrTo b1) h K4) h fun v5 h =>
 GuardW (wantV v3 false) (fun K6 =>
 CallW Tryd.prog 26 [v5] h K6) h fun v7 h =>
 GuardW (wantV v3 false) (fun K8 =>
 binB False Tryd.prog .neq 58 true false v7 (Value.int .i64 (0)) h K8) h fun v9 h =>
 pickB False v3 (Value.bool true) v9 h fun v10 h =>
 CondW v10 (
 κ (Value.int .i64 (-1)) h) (
 loadA False 2 (ptrTo b1) h fun v11 h =>
 CallW Tryd.prog 27 [v11] h fun v12 h =>
 convI False .u32 a1 h fun v13 h =>
 binB False Tryd.prog .rem 60 false false v12 v13 h fun v14 h =>
 convI False .i64 v14 h fun v15 h =>
 κ v15 h)) := by kernel_rfl

/-- latchstring/latchstringkit.Own[latchstring/api.Request] -/
theorem rs_17 (a0 : Value) (h : Heap) (κ : Value → Heap → Prop) : BodyW Tryd.prog 17 [a0] h κ = (
 fillB False [] [] (repeatL [(Value.int .i64 (0)), (Value.int .i64 (0)), (Value.int .i64 (0)), (Value.int .i64 (0)), (Value.int .i64 (0))] 0) fun cs2 => cellsK False cs2 38 false fun o0 => newBlock False o0 h fun b1 h =>
 appendB False 38 5 [(Value.int .i64 (0)), (Value.int .i64 (0)), (Value.int .i64 (0)), (Value.int .i64 (0)), (Value.int .i64 (0))] false (sliceTo 0 0 b1) a0 h fun v3 h =>
 κ v3 h) := by kernel_rfl

/-- slices.SortStableFunc[[]latchstring/api.Held,latchstring/api.Held] -/
theorem rs_18 (a0 a1 : Value) (h : Heap) (κ : Value → Heap → Prop) : BodyW Tryd.prog 18 [a0, a1] h κ = (
 lenSli False a0 h fun v0 h =>
 CallW Tryd.prog 28 [a0, v0, a1] h fun v1 h =>
 κ (Value.tuple (Array.mk [])) h) := by kernel_rfl

/-- latchstring/drain.Pooled$1 -/
theorem rs_19 (a0 a1 : Value) (h : Heap) (κ : Value → Heap → Prop) : BodyW Tryd.prog 19 [a0, a1] h κ = (
 cellsK False (Value.cells a0).toList 50 false fun o0 => newBlock False o0 h fun b1 h =>
 cellsK False (Value.cells a1).toList 50 false fun o2 => newBlock False o2 h fun b3 h =>
 RdK (fieldAddrB none 0 (ptrTo b1) h fun v _ => some v) h fun v4 h =>
 RdK (load1 none v4 h fun v _ => some v) h fun v5 h =>
 RdK (fieldAddrB none 0 (ptrTo b3) h fun v _ => some v) h fun v6 h =>
 RdK (load1 none v6 h fun v _ => some v) h fun v7 h =>
 RdK (fieldAddrB none 1 (ptrTo b1) h fun v _ => some v) h fun v8 h =>
 RdK (loadA none 2 v8 h fun v _ => some v) h fun v9 h =>
 RdK (fieldAddrB none 1 (ptrTo b3) h fun v _ => some v) h fun v10 h =>
 RdK (loadA none 2 v10 h fun v _ => some v) h fun v11 h =>
 CallW Tryd.prog 21 [v5, v7] h fun v12 h =>
 SameK ((reV (fieldAddrB none 1 (ptrTo b1) h fun v _ => some v) v8) && ((reV (loadA none 2 v8 h fun v _ => some v) v9) && ((reV (fieldAddrB none 1 (ptrTo b3) h fun v _ => some v) v10) && ((reV (loadA none 2 v10 h fun v _ => some v) v11) && true)))) (CallW Tryd.prog 22 [v9, v11] h fun v13 h =>
 AlK (fillB none [(0, 1), (1, 1)] [v12, v13] (repeatL [(Value.int .i64 (0))] 2) fun cs => cellsK none cs 3 false fun o => some (o, sliceTo 2 2)) h fun v14 h =>
 CallW Tryd.prog 20 [v14] h fun v15 h =>
 κ v15 h)) := by kernel_rfl

noncomputable def rs_20_0 (a0 : Value) (l2 : List Value) (N1 : List Value → Heap → Prop) (v3 : Value) (h : Heap) (κ : Value → Heap → Prop) : Prop :=
 indexAddrS False 1 a0 (slot l2 10) h fun v4 h =>
 load1 False v4 h fun v5 h =>
 binB False Tryd.prog .neq 3 false false v5 (Value.int .i64 (0)) h fun v6 h =>
 CondW v6 (
 κ v5 h) (
 binB False Tryd.prog .add 3 true false (slot l2 10) (Value.int .i64 (1)) h fun v7 h =>
 N1 [v3, v4, v5, v5, v5, (Value.int .i64 (0)), v6, (slot l2 7), (slot l2 8), v7, v7] h)

/-- cmp.Or[int] -/
theorem rs_20 (a0 : Value) (h : Heap) (κ : Value → Heap → Prop) : BodyW Tryd.prog 20 [a0] h κ = (
 lenSli False a0 h fun v0 h =>
 LoopR [undef, undef, undef, undef, undef, undef, undef, undef, (Value.int .i64 (0)), undef, (Value.int .i64 (0))] h fun l2 h N1 =>
 binB False Tryd.prog .lss 3 false false (slot l2 10) v0 h fun v3 h =>
 CondW v3 (
 rs_20_0 a0 l2 N1 v3 h κ) (
 κ (Value.int .i64 (0)) h)) := by kernel_rfl

noncomputable def rs_21_0 (a0 : Value) (a1 : Value) (h : Heap) (κ : Value → Heap → Prop) : Prop :=
 binB False Tryd.prog .lss 3 false false a0 a1 h fun v2 h =>
 CondW v2 (
 κ (Value.int .i64 (-1)) h) (
 binB False Tryd.prog .gtr 3 false false a0 a1 h fun v3 h =>
 CondW v3 (
 κ (Value.int .i64 (1)) h) (
 κ (Value.int .i64 (0)) h))

/-- cmp.Compare[int] -/
theorem rs_21 (a0 a1 : Value) (h : Heap) (κ : Value → Heap → Prop) : BodyW Tryd.prog 21 [a0, a1] h κ = (
 CallW Tryd.prog 29 [a0] h fun v0 h =>
 CallW Tryd.prog 29 [a1] h fun v1 h =>
 CondW v0 (
 CondW v1 (
 κ (Value.int .i64 (0)) h) (
 κ (Value.int .i64 (-1)) h)) (
 CondW v1 (
 κ (Value.int .i64 (1)) h) (
 rs_21_0 a0 a1 h κ))) := by kernel_rfl

/-- latchstring/name.Compare -/
theorem rs_22 (a0 a1 : Value) (h : Heap) (κ : Value → Heap → Prop) : BodyW Tryd.prog 22 [a0, a1] h κ = (
 cellsK False (Value.cells a0).toList 30 false fun o0 => newBlock False o0 h fun b1 h =>
 cellsK False (Value.cells a1).toList 30 false fun o2 => newBlock False o2 h fun b3 h =>
 RdK (fieldAddrB none 0 (ptrTo b1) h fun v _ => some v) h fun v4 h =>
 RdK (load1 none v4 h fun v _ => some v) h fun v5 h =>
 RdK (fieldAddrB none 0 (ptrTo b3) h fun v _ => some v) h fun v6 h =>
 RdK (load1 none v6 h fun v _ => some v) h fun v7 h =>
 RdK (fieldAddrB none 1 (ptrTo b1) h fun v _ => some v) h fun v8 h =>
 RdK (load1 none v8 h fun v _ => some v) h fun v9 h =>
 RdK (fieldAddrB none 1 (ptrTo b3) h fun v _ => some v) h fun v10 h =>
 RdK (load1 none v10 h fun v _ => some v) h fun v11 h =>
 CallW Tryd.prog 21 [v5, v7] h fun v12 h =>
 SameK ((reV (fieldAddrB none 1 (ptrTo b1) h fun v _ => some v) v8) && ((reV (load1 none v8 h fun v _ => some v) v9) && ((reV (fieldAddrB none 1 (ptrTo b3) h fun v _ => some v) v10) && ((reV (load1 none v10 h fun v _ => some v) v11) && true)))) (CallW Tryd.prog 21 [v9, v11] h fun v13 h =>
 AlK (fillB none [(0, 1), (1, 1)] [v12, v13] (repeatL [(Value.int .i64 (0))] 2) fun cs => cellsK none cs 3 false fun o => some (o, sliceTo 2 2)) h fun v14 h =>
 CallW Tryd.prog 20 [v14] h fun v15 h =>
 κ v15 h)) := by kernel_rfl

noncomputable def rs_24_0 (b1 : Nat) (h : Heap) (κ : Value → Heap → Prop) : Prop :=
 fieldAddrB False 0 (ptrTo b1) h fun v15 h =>
 load1 False v15 h fun v16 h =>
 CallW Tryd.prog 31 [v16] h fun v17 h =>
 GuardW (wantV v17 true) (fun K18 =>
 fieldAddrB False 1 (ptrTo b1) h K18) h fun v19 h =>
 GuardW (wantV v17 true) (fun K20 =>
 load1 False v19 h K20) h fun v21 h =>
 GuardW (wantV v17 true) (fun K22 =>
 CallW Tryd.prog 31 [v21] h K22) h fun v23 h =>
 pickB False v17 v23 (Value.bool false) h fun v24 h =>
 CondW v24 (
 κ (Value.int .i64 (2)) h) (
 κ (Value.int .i64 (-1)) h)

noncomputable def rs_24_1 (b1 : Nat) (h : Heap) (κ : Value → Heap → Prop) : Prop :=
 fieldAddrB False 0 (ptrTo b1) h fun v5 h =>
 load1 False v5 h fun v6 h =>
 CallW Tryd.prog 31 [v6] h fun v7 h =>
 GuardW (wantV v7 true) (fun K8 =>
 fieldAddrB False 1 (ptrTo b1) h K8) h fun v9 h =>
 GuardW (wantV v7 true) (fun K10 =>
 load1 False v9 h K10) h fun v11 h =>
 GuardW (wantV v7 true) (fun K12 =>
 binB False Tryd.prog .eql 3 true false v11 (Value.int .i64 (-1)) h K12) h fun v13 h =>
 pickB False v7 v13 (Value.bool false) h fun v14 h =>
 CondW v14 (
 κ (Value.int .i64 (1)) h) (
 rs_24_0 b1 h κ)

/-- latchstring/name.Level -/
theorem rs_24 (a0 : Value) (h : Heap) (κ : Value → Heap → Prop) : BodyW Tryd.prog 24 [a0] h κ = (
 cellsK False (Value.cells a0).toList 30 false fun o0 => newBlock False o0 h fun b1 h =>
 RdK (loadA none 2 (ptrTo b1) h fun v _ => some v) h fun v2 h =>
 CallW Tryd.prog 30 [] h fun v3 h =>
 SameK ((reV (loadA none 2 (ptrTo b1) h fun v _ => some v) v2) && true) (RdK (binB none Tryd.prog .eql 30 false false v2 v3 h fun v _ => some v) h fun v4 h =>
 CondW v4 (
 κ (Value.int .i64 (0)) h) (
 rs_24_1 b1 h κ))) := by kernel_rfl

/-- latchstring/stripe.may -/
theorem rs_25 (a0 : Value) (h : Heap) (κ : Value → Heap → Prop) : BodyW Tryd.prog 25 [a0] h κ = (
 binB False Tryd.prog .geq 3 true false a0 (Value.int .i64 (1)) h fun v0 h =>
 GuardW (wantV v0 true) (fun K1 =>
 K1 a0 h) h fun v2 h =>
 GuardW (wantV v0 true) (fun K3 =>
 binB False Tryd.prog .leq 3 true false v2 (Value.int .i64 (16)) h K3) h fun v4 h =>
 pickB False v0 v4 (Value.bool false) h fun v5 h =>
 κ v5 h) := by kernel_rfl

/-- latchstring/name.Check -/
theorem rs_26 (a0 : Value) (h : Heap) (κ : Value → Heap → Prop) : BodyW Tryd.prog 26 [a0] h κ = (
 cellsK False (Value.cells a0).toList 30 false fun o0 => newBlock False o0 h fun b1 h =>
 loadA False 2 (ptrTo b1) h fun v2 h =>
 CallW Tryd.prog 24 [v2] h fun v3 h =>
 binB False Tryd.prog .eql 3 true false v3 (Value.int .i64 (-1)) h fun v4 h =>
 CondW v4 (
 κ (Value.int .i64 (2)) h) (
 κ (Value.int .i64 (0)) h)) := by kernel_rfl

/-- latchstring/stripe.Hash -/
theorem rs_27 (a0 : Value) (h : Heap) (κ : Value → Heap → Prop) : BodyW Tryd.prog 27 [a0] h κ = (
 cellsK False (Value.cells a0).toList 30 false fun o0 => newBlock False o0 h fun b1 h =>
 loadA False 2 (ptrTo b1) h fun v2 h =>
 CallW Tryd.prog 33 [v2] h fun v3 h =>
 CallW Tryd.prog 32 [v3] h fun v4 h =>
 κ v4 h) := by kernel_rfl

noncomputable def rs_28_0 (l11 : List Value) (l7 : List Value) (a1 : Value) (a0 : Value) (a2 : Value) (N6 : List Value → Heap → Prop) (v8 : Value) (v9 : Value) (v12 : Value) (h : Heap) : Prop :=
 JoinR (fun N17 =>
 binB False Tryd.prog .add 3 false false (slot l11 12) (slot l7 38) h fun v19 h =>
 binB False Tryd.prog .lss 3 false false v19 a1 h fun v20 h =>
 CondW v20 (
 CallW Tryd.prog 35 [a0, (slot l11 12), v19, a1, a2] h fun v21 h =>
 N17 [(slot l11 12), (slot l7 38), v19, v19, v19, a1, v20, a0, (slot l11 12), v19, a1, a2, v21] h) (
 N17 [(slot l11 12), (slot l7 38), v19, v19, v19, a1, v20, (slot l7 30), (slot l7 31), (slot l7 32), (slot l7 33), (slot l7 34), (slot l7 35)] h)) fun l18 h =>
 binB False Tryd.prog .mul 3 true false (slot l7 38) (Value.int .i64 (2)) h fun v22 h =>
 N6 [(slot l7 38), a1, v8, (slot l7 38), v9, (slot l11 17), a1, v12, (slot l11 3), (slot l11 4), (slot l11 5), (slot l11 6), (slot l11 7), (slot l11 8), (slot l11 9), (slot l11 10), (slot l11 11), (slot l11 12), (slot l11 13), (slot l11 14), (slot l11 15), (slot l11 16), (slot l11 17), (slot l18 0), (slot l18 1), (slot l18 2), (slot l18 3), (slot l18 4), (slot l18 5), (slot l18 6), (slot l18 7), (slot l18 8), (slot l18 9), (slot l18 10), (slot l18 11), (slot l18 12), (slot l7 38), v22, v22] h

noncomputable def rs_28_1 (l11 : List Value) (a1 : Value) (l7 : List Value) (a0 : Value) (a2 : Value) (N10 : List Value → Heap → Prop) (N6 : List Value → Heap → Prop) (v8 : Value) (v9 : Value) (h : Heap) : Prop :=
 binB False Tryd.prog .leq 3 false false (slot l11 17) a1 h fun v12 h =>
 CondW v12 (
 binB False Tryd.prog .add 3 false false (slot l11 12) (slot l7 38) h fun v13 h =>
 CallW Tryd.prog 35 [a0, (slot l11 12), v13, (slot l11 17), a2] h fun v14 h =>
 binB False Tryd.prog .mul 3 true false (Value.int .i64 (2)) (slot l7 38) h fun v15 h =>
 binB False Tryd.prog .add 3 false false (slot l11 17) v15 h fun v16 h =>
 N10 [(slot l11 17), a1, v12, a0, (slot l11 12), (slot l11 12), (slot l7 38), v13, (slot l11 17), a2, v14, (slot l11 17), (slot l11 17), (slot l11 17), (slot l7 38), v15, v16, v16] h) (
 rs_28_0 l11 l7 a1 a0 a2 N6 v8 v9 v12 h)

noncomputable def rs_28_2 (a0 : Value) (l1 : List Value) (a1 : Value) (a2 : Value) (h : Heap) (κ : Value → Heap → Prop) : Prop :=
 CallW Tryd.prog 34 [a0, (slot l1 9), a1, a2] h fun v5 h =>
 LoopR [undef, undef, undef, undef, undef, undef, undef, undef, undef, undef, undef, undef, undef, undef, undef, undef, undef, (slot l1 9), undef, undef, undef, undef, (slot l1 13), undef, undef, undef, undef, undef, undef, undef, undef, undef, undef, undef, undef, undef, undef, undef, (Value.int .i64 (20))] h fun l7 h N6 =>
 binB False Tryd.prog .lss 3 false false (slot l7 38) a1 h fun v8 h =>
 CondW v8 (
 binB False Tryd.prog .mul 3 true false (Value.int .i64 (2)) (slot l7 38) h fun v9 h =>
 LoopR [(slot l7 5), (slot l7 6), (slot l7 7), (slot l7 8), (slot l7 9), (slot l7 10), (slot l7 11), (slot l7 12), (slot l7 13), (slot l7 14), (slot l7 15), (slot l7 16), (Value.int .i64 (0)), (slot l7 18), (slot l7 19), (slot l7 20), (slot l7 21), v9] h fun l11 h N10 =>
 rs_28_1 l11 a1 l7 a0 a2 N10 N6 v8 v9 h) (
 κ (Value.tuple (Array.mk [])) h)

/-- slices.stableCmpFunc[latchstring/api.Held] -/
theorem rs_28 (a0 a1 a2 : Value) (h : Heap) (κ : Value → Heap → Prop) : BodyW Tryd.prog 28 [a0, a1, a2] h κ = (
 LoopR [undef, undef, undef, undef, undef, undef, undef, undef, undef, (Value.int .i64 (0)), undef, undef, undef, (Value.int .i64 (20))] h fun l1 h N0 =>
 binB False Tryd.prog .leq 3 false false (slot l1 13) a1 h fun v2 h =>
 CondW v2 (
 CallW Tryd.prog 34 [a0, (slot l1 9), (slot l1 13), a2] h fun v3 h =>
 binB False Tryd.prog .add 3 false false (slot l1 13) (Value.int .i64 (20)) h fun v4 h =>
 N0 [(slot l1 13), a1, v2, a0, (slot l1 9), (slot l1 13), a2, v3, (slot l1 13), (slot l1 13), (slot l1 13), (Value.int .i64 (20)), v4, v4] h) (
 rs_28_2 a0 l1 a1 a2 h κ)) := by kernel_rfl

/-- cmp.isNaN[int] -/
theorem rs_29 (a0 : Value) (h : Heap) (κ : Value → Heap → Prop) : BodyW Tryd.prog 29 [a0] h κ = (
 binB False Tryd.prog .neq 3 false false a0 a0 h fun v0 h =>
 κ v0 h) := by kernel_rfl

/-- latchstring/name.Database -/
theorem rs_30 (h : Heap) (κ : Value → Heap → Prop) : BodyW Tryd.prog 30 [] h κ = (
 cellsK False [(Value.int .i64 (0)), (Value.int .i64 (0))] 30 false fun o0 => newBlock False o0 h fun b1 h =>
 fillB False [(0, 1), (1, 1)] [(Value.int .i64 (-1)), (Value.int .i64 (-1))] [(Value.int .i64 (0)), (Value.int .i64 (0))] fun cs2 =>
 storeV False 2 (ptrTo b1) (Value.agg (Array.mk cs2)) h fun v3 h =>
 loadA False 2 (ptrTo b1) h fun v4 _ => κ v4 h) := by kernel_rfl

/-- latchstring/name.within -/
theorem rs_31 (a0 : Value) (h : Heap) (κ : Value → Heap → Prop) : BodyW Tryd.prog 31 [a0] h κ = (
 binB False Tryd.prog .geq 3 true false a0 (Value.int .i64 (0)) h fun v0 h =>
 GuardW (wantV v0 true) (fun K1 =>
 K1 a0 h) h fun v2 h =>
 GuardW (wantV v0 true) (fun K3 =>
 binB False Tryd.prog .lss 3 true false v2 (Value.int .i64 (100)) h K3) h fun v4 h =>
 pickB False v0 v4 (Value.bool false) h fun v5 h =>
 κ v5 h) := by kernel_rfl

noncomputable def rs_32_0 (v0 : Value) (l3 : List Value) (N2 : List Value → Heap → Prop) (v4 : Value) (h : Heap) : Prop :=
 indexAddrS False 1 v0 (slot l3 12) h fun v5 h =>
 load1 False v5 h fun v6 h =>
 convI False .u32 v6 h fun v7 h =>
 binB False Tryd.prog .xor 60 false false (slot l3 10) v7 h fun v8 h =>
 binB False Tryd.prog .mul 60 true false v8 (Value.int .u32 (16777619)) h fun v9 h =>
 binB False Tryd.prog .add 3 true false (slot l3 12) (Value.int .i64 (1)) h fun v10 h =>
 N2 [v4, v5, v6, v6, (slot l3 10), v6, v7, v8, v8, v9, v9, v10, v10] h

/-- latchstring/stripe.Sum -/
theorem rs_32 (a0 : Value) (h : Heap) (κ : Value → Heap → Prop) : BodyW Tryd.prog 32 [a0] h κ = (
 strBytes False 5 a0 h fun v0 h =>
 lenSli False v0 h fun v1 h =>
 LoopR [undef, undef, undef, undef, undef, undef, undef, undef, undef, undef, (Value.int .u32 (2166136261)), undef, (Value.int .i64 (0))] h fun l3 h N2 =>
 binB False Tryd.prog .lss 3 false false (slot l3 12) v1 h fun v4 h =>
 CondW v4 (
 rs_32_0 v0 l3 N2 v4 h) (
 κ (slot l3 10) h)) := by kernel_rfl

noncomputable def rs_33_0 (b1 : Nat) (h : Heap) (κ : Value → Heap → Prop) : Prop :=
 RdK (fieldAddrB none 0 (ptrTo b1) h fun v _ => some v) h fun v11 h =>
 RdK (load1 none v11 h fun v _ => some v) h fun v12 h =>
 RdK (fieldAddrB none 1 (ptrTo b1) h fun v _ => some v) h fun v13 h =>
 RdK (load1 none v13 h fun v _ => some v) h fun v14 h =>
 CallW Tryd.prog 36 [v12] h fun v15 h =>
 SameK ((reV (fieldAddrB none 1 (ptrTo b1) h fun v _ => some v) v13) && ((reV (load1 none v13 h fun v _ => some v) v14) && true)) (RdK (binB none Tryd.prog .add 9 true false (Value.string (ByteArray.mk (Array.mk [116]))) v15 h fun v _ => some v) h fun v16 h =>
 RdK (binB none Tryd.prog .add 9 true false v16 (Value.string (ByteArray.mk (Array.mk [46, 114]))) h fun v _ => some v) h fun v17 h =>
 CallW Tryd.prog 36 [v14] h fun v18 h =>
 SameK ((reV (binB none Tryd.prog .add 9 true false (Value.string (ByteArray.mk (Array.mk [116]))) v15 h fun v _ => some v) v16) && ((reV (binB none Tryd.prog .add 9 true false v16 (Value.string (ByteArray.mk (Array.mk [46, 114]))) h fun v _ => some v) v17) && true)) (RdK (binB none Tryd.prog .add 9 false false v17 v18 h fun v _ => some v) h fun v19 h =>
 κ v19 h))

noncomputable def rs_33_1 (v3 : Value) (b1 : Nat) (h : Heap) (κ : Value → Heap → Prop) : Prop :=
 binB False Tryd.prog .eql 3 true false v3 (Value.int .i64 (1)) h fun v5 h =>
 CondW v5 (
 fieldAddrB False 0 (ptrTo b1) h fun v6 h =>
 load1 False v6 h fun v7 h =>
 CallW Tryd.prog 36 [v7] h fun v8 h =>
 binB False Tryd.prog .add 9 true false (Value.string (ByteArray.mk (Array.mk [116]))) v8 h fun v9 h =>
 κ v9 h) (
 binB False Tryd.prog .eql 3 true false v3 (Value.int .i64 (2)) h fun v10 h =>
 CondW v10 (
 rs_33_0 b1 h κ) (
 κ (Value.string (ByteArray.mk (Array.mk [63]))) h))

/-- latchstring/name.Text -/
theorem rs_33 (a0 : Value) (h : Heap) (κ : Value → Heap → Prop) : BodyW Tryd.prog 33 [a0] h κ = (
 cellsK False (Value.cells a0).toList 30 false fun o0 => newBlock False o0 h fun b1 h =>
 loadA False 2 (ptrTo b1) h fun v2 h =>
 CallW Tryd.prog 24 [v2] h fun v3 h =>
 binB False Tryd.prog .eql 3 true false v3 (Value.int .i64 (0)) h fun v4 h =>
 CondW v4 (
 κ (Value.string (ByteArray.mk (Array.mk [100, 98]))) h) (
 rs_33_1 v3 b1 h κ)) := by kernel_rfl

noncomputable def rs_34_0 (a0 : Value) (l5 : List Value) (N4 : List Value → Heap → Prop) (v6 : Value) (v7 : Value) (v8 : Value) (v9 : Value) (v11 : Value) (v13 : Value) (v15 : Value) (v17 : Value) (v19 : Value) (v21 : Value) (v23 : Value) (v25 : Value) (v27 : Value) (v29 : Value) (v31 : Value) (v33 : Value) (v34 : Value) (h : Heap) : Prop :=
 RdK (some a0) h fun v35 h =>
 RdK (some (slot l5 35)) h fun v36 h =>
 RdK (some a0) h fun v37 h =>
 RdK (some (slot l5 35)) h fun v38 h =>
 RdK (binB none Tryd.prog .sub 3 true false v38 (Value.int .i64 (1)) h fun v _ => some v) h fun v39 h =>
 RdK (some a0) h fun v40 h =>
 RdK (some (slot l5 35)) h fun v41 h =>
 RdK (binB none Tryd.prog .sub 3 true false v41 (Value.int .i64 (1)) h fun v _ => some v) h fun v42 h =>
 RdK (indexAddrS none 4 v40 v42 h fun v _ => some v) h fun v43 h =>
 RdK (loadA none 4 v43 h fun v _ => some v) h fun v44 h =>
 RdK (some a0) h fun v45 h =>
 RdK (some (slot l5 35)) h fun v46 h =>
 RdK (indexAddrS none 4 v45 v46 h fun v _ => some v) h fun v47 h =>
 RdK (loadA none 4 v47 h fun v _ => some v) h fun v48 h =>
 RdK (indexAddrS none 4 v35 v36 h fun v _ => some v) h fun v49 h =>
 storeV False 4 v49 v44 h fun v50 h =>
 SameK ((reV (some a0) v37) && ((reV (some (slot l5 35)) v38) && ((reV (binB none Tryd.prog .sub 3 true false v38 (Value.int .i64 (1)) h fun v _ => some v) v39) && true))) (RdK (indexAddrS none 4 v37 v39 h fun v _ => some v) h fun v51 h =>
 storeV False 4 v51 v48 h fun v52 h =>
 binB False Tryd.prog .sub 3 true false (slot l5 35) (Value.int .i64 (1)) h fun v53 h =>
 N4 [v6, v7, v8, v9, v11, v13, v15, v17, v19, v21, v23, v25, v27, v29, v31, v33, v34, v35, v36, v37, v38, v39, v40, v41, v42, v43, v44, v45, v46, v47, v48, v49, v51, (slot l5 35), v53, v53] h)

noncomputable def rs_34_1 (l5 : List Value) (a1 : Value) (a3 : Value) (a0 : Value) (N4 : List Value → Heap → Prop) (l2 : List Value) (N1 : List Value → Heap → Prop) (a2 : Value) (v3 : Value) (h : Heap) : Prop :=
 RdK (some (slot l5 35)) h fun v6 h =>
 RdK (some a1) h fun v7 h =>
 RdK (binB none Tryd.prog .gtr 3 false false v6 v7 h fun v _ => some v) h fun v8 h =>
 RdK (some v8) h fun v9 h =>
 GuardW (wantV v9 true) (fun K10 =>
 RdK (some a3) h K10) h fun v11 h =>
 GuardW (wantV v9 true) (fun K12 =>
 RdK (some a0) h K12) h fun v13 h =>
 GuardW (wantV v9 true) (fun K14 =>
 RdK (some (slot l5 35)) h K14) h fun v15 h =>
 GuardW (wantV v9 true) (fun K16 =>
 RdK (indexAddrS none 4 v13 v15 h fun v _ => some v) h K16) h fun v17 h =>
 GuardW (wantV v9 true) (fun K18 =>
 RdK (loadA none 4 v17 h fun v _ => some v) h K18) h fun v19 h =>
 GuardW (wantV v9 true) (fun K20 =>
 RdK (some a0) h K20) h fun v21 h =>
 GuardW (wantV v9 true) (fun K22 =>
 RdK (some (slot l5 35)) h K22) h fun v23 h =>
 GuardW (wantV v9 true) (fun K24 =>
 RdK (binB none Tryd.prog .sub 3 true false v23 (Value.int .i64 (1)) h fun v _ => some v) h K24) h fun v25 h =>
 GuardW (wantV v9 true) (fun K26 =>
 RdK (indexAddrS none 4 v21 v25 h fun v _ => some v) h K26) h fun v27 h =>
 GuardW (wantV v9 true) (fun K28 =>
 RdK (loadA none 4 v27 h fun v _ => some v) h K28) h fun v29 h =>
 GuardW (wantV v9 true) (fun K30 =>
 CallV Tryd.prog v11 [v19, v29] h K30) h fun v31 h =>
 GuardW (wantV v9 true) (fun K32 =>
 RdK (binB none Tryd.prog .lss 3 true false v31 (Value.int .i64 (0)) h fun v _ => some v) h K32) h fun v33 h =>
 RdK (pickB none v9 v33 (Value.bool false) h fun v _ => some v) h fun v34 h =>
 CondW v34 (
 rs_34_0 a0 l5 N4 v6 v7 v8 v9 v11 v13 v15 v17 v19 v21 v23 v25 v27 v29 v31 v33 v34 h) (
 binB False Tryd.prog .add 3 true false (slot l2 42) (Value.int .i64 (1)) h fun v54 h =>
 N1 [(slot l2 42), a2, v3, (slot l2 42), v6, v7, v8, v9, v11, v13, v15, v17, v19, v21, v23, v25, v27, v29, v31, v33, v34, (slot l5 17), (slot l5 18), (slot l5 19), (slot l5 20), (slot l5 21), (slot l5 22), (slot l5 23), (slot l5 24), (slot l5 25), (slot l5 26), (slot l5 27), (slot l5 28), (slot l5 29), (slot l5 30), (slot l5 31), (slot l5 32), (slot l5 33), (slot l5 34), (slot l5 35), (slot l2 42), v54, v54] h)

/-- slices.insertionSortCmpFunc[latchstring/api.Held] -/
theorem rs_34 (a0 a1 a2 a3 : Value) (h : Heap) (κ : Value → Heap → Prop) : BodyW Tryd.prog 34 [a0, a1, a2, a3] h κ = (
 binB False Tryd.prog .add 3 true false a1 (Value.int .i64 (1)) h fun v0 h =>
 LoopR [undef, undef, undef, undef, undef, undef, undef, undef, undef, undef, undef, undef, undef, undef, undef, undef, undef, undef, undef, undef, undef, undef, undef, undef, undef, undef, undef, undef, undef, undef, undef, undef, undef, undef, undef, undef, undef, undef, undef, undef, undef, undef, v0] h fun l2 h N1 =>
 binB False Tryd.prog .lss 3 false false (slot l2 42) a2 h fun v3 h =>
 CondW v3 (
 LoopR [(slot l2 4), (slot l2 5), (slot l2 6), (slot l2 7), (slot l2 8), (slot l2 9), (slot l2 10), (slot l2 11), (slot l2 12), (slot l2 13), (slot l2 14), (slot l2 15), (slot l2 16), (slot l2 17), (slot l2 18), (slot l2 19), (slot l2 20), (slot l2 21), (slot l2 22), (slot l2 23), (slot l2 24), (slot l2 25), (slot l2 26), (slot l2 27), (slot l2 28), (slot l2 29), (slot l2 30), (slot l2 31), (slot l2 32), (slot l2 33), (slot l2 34), (slot l2 35), (slot l2 36), (slot l2 37), (slot l2 38), (slot l2 42)] h fun l5 h N4 =>
 rs_34_1 l5 a1 a3 a0 N4 l2 N1 a2 v3 h) (
 κ (Value.tuple (Array.mk [])) h)) := by kernel_rfl

noncomputable def rs_35_0 (a0 : Value) (l22 : List Value) (N21 : List Value → Heap → Prop) (l3 : List Value) (v23 : Value) (v24 : Value) (h : Heap) : Prop :=
 RdK (some a0) h fun v25 h =>
 RdK (some (slot l22 22)) h fun v26 h =>
 RdK (some a0) h fun v27 h =>
 RdK (some (slot l22 22)) h fun v28 h =>
 RdK (binB none Tryd.prog .add 3 true false v28 (Value.int .i64 (1)) h fun v _ => some v) h fun v29 h =>
 RdK (some a0) h fun v30 h =>
 RdK (some (slot l22 22)) h fun v31 h =>
 RdK (binB none Tryd.prog .add 3 true false v31 (Value.int .i64 (1)) h fun v _ => some v) h fun v32 h =>
 RdK (indexAddrS none 4 v30 v32 h fun v _ => some v) h fun v33 h =>
 RdK (loadA none 4 v33 h fun v _ => some v) h fun v34 h =>
 RdK (some a0) h fun v35 h =>
 RdK (some (slot l22 22)) h fun v36 h =>
 RdK (indexAddrS none 4 v35 v36 h fun v _ => some v) h fun v37 h =>
 RdK (loadA none 4 v37 h fun v _ => some v) h fun v38 h =>
 RdK (indexAddrS none 4 v25 v26 h fun v _ => some v) h fun v39 h =>
 storeV False 4 v39 v34 h fun v40 h =>
 SameK ((reV (some a0) v27) && ((reV (some (slot l22 22)) v28) && ((reV (binB none Tryd.prog .add 3 true false v28 (Value.int .i64 (1)) h fun v _ => some v) v29) && true))) (RdK (indexAddrS none 4 v27 v29 h fun v _ => some v) h fun v41 h =>
 storeV False 4 v41 v38 h fun v42 h =>
 binB False Tryd.prog .add 3 true false (slot l22 22) (Value.int .i64 (1)) h fun v43 h =>
 N21 [(slot l22 22), (slot l3 23), v23, v24, v25, v26, v27, v28, v29, v30, v31, v32, v33, v34, v35, v36, v37, v38, v39, v41, (slot l22 22), v43, v43] h)

noncomputable def rs_35_1 (l3 : List Value) (a4 : Value) (a0 : Value) (a1 : Value) (N2 : List Value → Heap → Prop) (v4 : Value) (h : Heap) : Prop :=
 binB False Tryd.prog .add 3 false false (slot l3 23) (slot l3 25) h fun v5 h =>
 convI False .u64 v5 h fun v6 h =>
 binB False Tryd.prog .shr 71 true false v6 (Value.int .u64 (1)) h fun v7 h =>
 convI False .i64 v7 h fun v8 h =>
 RdK (some a4) h fun v9 h =>
 RdK (some a0) h fun v10 h =>
 RdK (some v8) h fun v11 h =>
 RdK (indexAddrS none 4 v10 v11 h fun v _ => some v) h fun v12 h =>
 RdK (loadA none 4 v12 h fun v _ => some v) h fun v13 h =>
 RdK (some a0) h fun v14 h =>
 RdK (some a1) h fun v15 h =>
 RdK (indexAddrS none 4 v14 v15 h fun v _ => some v) h fun v16 h =>
 RdK (loadA none 4 v16 h fun v _ => some v) h fun v17 h =>
 CallV Tryd.prog v9 [v13, v17] h fun v18 h =>
 RdK (binB none Tryd.prog .lss 3 true false v18 (Value.int .i64 (0)) h fun v _ => some v) h fun v19 h =>
 CondW v19 (
 binB False Tryd.prog .add 3 true false v8 (Value.int .i64 (1)) h fun v20 h =>
 N2 [(slot l3 23), (slot l3 25), v4, (slot l3 23), (slot l3 25), v5, v6, v7, v8, v8, v9, v10, v11, v12, v13, v14, v15, v16, v17, v18, v19, v8, v20, v20, (slot l3 24), (slot l3 25)] h) (
 N2 [(slot l3 23), (slot l3 25), v4, (slot l3 23), (slot l3 25), v5, v6, v7, v8, v8, v9, v10, v11, v12, v13, v14, v15, v16, v17, v18, v19, (slot l3 21), (slot l3 22), (slot l3 23), v8, v8] h)

noncomputable def rs_35_2 (l3 : List Value) (a4 : Value) (a0 : Value) (a1 : Value) (N2 : List Value → Heap → Prop) (h : Heap) (κ : Value → Heap → Prop) : Prop :=
 binB False Tryd.prog .lss 3 false false (slot l3 23) (slot l3 25) h fun v4 h =>
 CondW v4 (
 rs_35_1 l3 a4 a0 a1 N2 v4 h) (
 LoopR [undef, undef, undef, undef, undef, undef, undef, undef, undef, undef, undef, undef, undef, undef, undef, undef, undef, undef, undef, undef, undef, undef, a1] h fun l22 h N21 =>
 binB False Tryd.prog .sub 3 true false (slot l3 23) (Value.int .i64 (1)) h fun v23 h =>
 binB False Tryd.prog .lss 3 false false (slot l22 22) v23 h fun v24 h =>
 CondW v24 (
 rs_35_0 a0 l22 N21 l3 v23 v24 h) (
 κ (Value.tuple (Array.mk [])) h))

noncomputable def rs_35_3 (a0 : Value) (l67 : List Value) (N66 : List Value → Heap → Prop) (l47 : List Value) (v68 : Value) (h : Heap) : Prop :=
 RdK (some a0) h fun v69 h =>
 RdK (some (slot l67 21)) h fun v70 h =>
 RdK (some a0) h fun v71 h =>
 RdK (some (slot l67 21)) h fun v72 h =>
 RdK (binB none Tryd.prog .sub 3 true false v72 (Value.int .i64 (1)) h fun v _ => some v) h fun v73 h =>
 RdK (some a0) h fun v74 h =>
 RdK (some (slot l67 21)) h fun v75 h =>
 RdK (binB none Tryd.prog .sub 3 true false v75 (Value.int .i64 (1)) h fun v _ => some v) h fun v76 h =>
 RdK (indexAddrS none 4 v74 v76 h fun v _ => some v) h fun v77 h =>
 RdK (loadA none 4 v77 h fun v _ => some v) h fun v78 h =>
 RdK (some a0) h fun v79 h =>
 RdK (some (slot l67 21)) h fun v80 h =>
 RdK (indexAddrS none 4 v79 v80 h fun v _ => some v) h fun v81 h =>
 RdK (loadA none 4 v81 h fun v _ => some v) h fun v82 h =>
 RdK (indexAddrS none 4 v69 v70 h fun v _ => some v) h fun v83 h =>
 storeV False 4 v83 v78 h fun v84 h =>
 SameK ((reV (some a0) v71) && ((reV (some (slot l67 21)) v72) && ((reV (binB none Tryd.prog .sub 3 true false v72 (Value.int .i64 (1)) h fun v _ => some v) v73) && true))) (RdK (indexAddrS none 4 v71 v73 h fun v _ => some v) h fun v85 h =>
 storeV False 4 v85 v82 h fun v86 h =>
 binB False Tryd.prog .sub 3 true false (slot l67 21) (Value.int .i64 (1)) h fun v87 h =>
 N66 [(slot l67 21), (slot l47 24), v68, v69, v70, v71, v72, v73, v74, v75, v76, v77, v78, v79, v80, v81, v82, v83, v85, (slot l67 21), v87, v87] h)

noncomputable def rs_35_4 (l47 : List Value) (a4 : Value) (a0 : Value) (a2 : Value) (N46 : List Value → Heap → Prop) (v48 : Value) (h : Heap) : Prop :=
 binB False Tryd.prog .add 3 false false (slot l47 24) (slot l47 26) h fun v49 h =>
 convI False .u64 v49 h fun v50 h =>
 binB False Tryd.prog .shr 71 true false v50 (Value.int .u64 (1)) h fun v51 h =>
 convI False .i64 v51 h fun v52 h =>
 RdK (some a4) h fun v53 h =>
 RdK (some a0) h fun v54 h =>
 RdK (some a2) h fun v55 h =>
 RdK (indexAddrS none 4 v54 v55 h fun v _ => some v) h fun v56 h =>
 RdK (loadA none 4 v56 h fun v _ => some v) h fun v57 h =>
 RdK (some a0) h fun v58 h =>
 RdK (some v52) h fun v59 h =>
 RdK (indexAddrS none 4 v58 v59 h fun v _ => some v) h fun v60 h =>
 RdK (loadA none 4 v60 h fun v _ => some v) h fun v61 h =>
 CallV Tryd.prog v53 [v57, v61] h fun v62 h =>
 RdK (binB none Tryd.prog .lss 3 true false v62 (Value.int .i64 (0)) h fun v _ => some v) h fun v63 h =>
 RdK (unB none .not v63 h fun v _ => some v) h fun v64 h =>
 CondW v64 (
 binB False Tryd.prog .add 3 true false v52 (Value.int .i64 (1)) h fun v65 h =>
 N46 [(slot l47 24), (slot l47 26), v48, (slot l47 24), (slot l47 26), v49, v50, v51, v52, v52, v53, v54, v55, v56, v57, v58, v59, v60, v61, v62, v63, v64, v52, v65, v65, (slot l47 25), (slot l47 26)] h) (
 N46 [(slot l47 24), (slot l47 26), v48, (slot l47 24), (slot l47 26), v49, v50, v51, v52, v52, v53, v54, v55, v56, v57, v58, v59, v60, v61, v62, v63, v64, (slot l47 22), (slot l47 23), (slot l47 24), v52, v52] h)

noncomputable def rs_35_5 (l47 : List Value) (a4 : Value) (a0 : Value) (a2 : Value) (N46 : List Value → Heap → Prop) (h : Heap) (κ : Value → Heap → Prop) : Prop :=
 binB False Tryd.prog .lss 3 false false (slot l47 24) (slot l47 26) h fun v48 h =>
 CondW v48 (
 rs_35_4 l47 a4 a0 a2 N46 v48 h) (
 LoopR [undef, undef, undef, undef, undef, undef, undef, undef, undef, undef, undef, undef, undef, undef, undef, undef, undef, undef, undef, undef, undef, a2] h fun l67 h N66 =>
 binB False Tryd.prog .gtr 3 false false (slot l67 21) (slot l47 24) h fun v68 h =>
 CondW v68 (
 rs_35_3 a0 l67 N66 l47 v68 h) (
 κ (Value.tuple (Array.mk [])) h))

noncomputable def rs_35_6 (a1 : Value) (l99 : List Value) (v91 : Value) (a0 : Value) (a4 : Value) (N132 : List Value → Heap → Prop) (h : Heap) : Prop :=
 binB False Tryd.prog .lss 3 false false a1 (slot l99 26) h fun v134 h =>
 GuardW (wantV v134 true) (fun K135 =>
 K135 (slot l99 26) h) h fun v136 h =>
 GuardW (wantV v134 true) (fun K137 =>
 K137 v91 h) h fun v138 h =>
 GuardW (wantV v134 true) (fun K139 =>
 binB False Tryd.prog .lss 3 false false v136 v138 h K139) h fun v140 h =>
 pickB False v134 v140 (Value.bool false) h fun v141 h =>
 CondW v141 (
 CallW Tryd.prog 35 [a0, a1, (slot l99 26), v91, a4] h fun v142 h =>
 N132 [a1, (slot l99 26), v134, v134, v136, v138, v140, v141, a0, a1, (slot l99 26), v91, a4, v142] h) (
 N132 [a1, (slot l99 26), v134, v134, v136, v138, v140, v141, undef, undef, undef, undef, undef, undef] h)

noncomputable def rs_35_7 (v91 : Value) (v120 : Value) (a3 : Value) (a0 : Value) (a4 : Value) (h : Heap) (κ : Value → Heap → Prop) : Prop :=
 binB False Tryd.prog .lss 3 false false v91 v120 h fun v143 h =>
 GuardW (wantV v143 true) (fun K144 =>
 K144 v120 h) h fun v145 h =>
 GuardW (wantV v143 true) (fun K146 =>
 K146 a3 h) h fun v147 h =>
 GuardW (wantV v143 true) (fun K148 =>
 binB False Tryd.prog .lss 3 false false v145 v147 h K148) h fun v149 h =>
 pickB False v143 v149 (Value.bool false) h fun v150 h =>
 CondW v150 (
 CallW Tryd.prog 35 [a0, v91, v120, a3, a4] h fun v151 h =>
 κ (Value.tuple (Array.mk [])) h) (
 κ (Value.tuple (Array.mk [])) h)

noncomputable def rs_35_8 (l99 : List Value) (a2 : Value) (v120 : Value) (a0 : Value) (a4 : Value) (N121 : List Value → Heap → Prop) (h : Heap) : Prop :=
 binB False Tryd.prog .lss 3 false false (slot l99 26) a2 h fun v123 h =>
 GuardW (wantV v123 true) (fun K124 =>
 K124 a2 h) h fun v125 h =>
 GuardW (wantV v123 true) (fun K126 =>
 K126 v120 h) h fun v127 h =>
 GuardW (wantV v123 true) (fun K128 =>
 binB False Tryd.prog .lss 3 false false v125 v127 h K128) h fun v129 h =>
 pickB False v123 v129 (Value.bool false) h fun v130 h =>
 CondW v130 (
 CallW Tryd.prog 37 [a0, (slot l99 26), a2, v120, a4] h fun v131 h =>
 N121 [(slot l99 26), a2, v123, v123, v125, v127, v129, v130, a0, (slot l99 26), a2, v120, a4, v131] h) (
 N121 [(slot l99 26), a2, v123, v123, v125, v127, v129, v130, undef, undef, undef, undef, undef, undef] h)

noncomputable def rs_35_9 (l99 : List Value) (a4 : Value) (a0 : Value) (v97 : Value) (N98 : List Value → Heap → Prop) (v100 : Value) (h : Heap) : Prop :=
 binB False Tryd.prog .add 3 false false (slot l99 26) (slot l99 28) h fun v101 h =>
 convI False .u64 v101 h fun v102 h =>
 binB False Tryd.prog .shr 71 true false v102 (Value.int .u64 (1)) h fun v103 h =>
 convI False .i64 v103 h fun v104 h =>
 RdK (some a4) h fun v105 h =>
 RdK (some a0) h fun v106 h =>
 RdK (some v97) h fun v107 h =>
 RdK (some v104) h fun v108 h =>
 RdK (binB none Tryd.prog .sub 3 false false v107 v108 h fun v _ => some v) h fun v109 h =>
 RdK (indexAddrS none 4 v106 v109 h fun v _ => some v) h fun v110 h =>
 RdK (loadA none 4 v110 h fun v _ => some v) h fun v111 h =>
 RdK (some a0) h fun v112 h =>
 RdK (some v104) h fun v113 h =>
 RdK (indexAddrS none 4 v112 v113 h fun v _ => some v) h fun v114 h =>
 RdK (loadA none 4 v114 h fun v _ => some v) h fun v115 h =>
 CallV Tryd.prog v105 [v111, v115] h fun v116 h =>
 RdK (binB none Tryd.prog .lss 3 true false v116 (Value.int .i64 (0)) h fun v _ => some v) h fun v117 h =>
 RdK (unB none .not v117 h fun v _ => some v) h fun v118 h =>
 CondW v118 (
 binB False Tryd.prog .add 3 true false v104 (Value.int .i64 (1)) h fun v119 h =>
 N98 [(slot l99 26), (slot l99 28), v100, (slot l99 26), (slot l99 28), v101, v102, v103, v104, v104, v105, v106, v107, v108, v109, v110, v111, v112, v113, v114, v115, v116, v117, v118, v104, v119, v119, (slot l99 27), (slot l99 28)] h) (
 N98 [(slot l99 26), (slot l99 28), v100, (slot l99 26), (slot l99 28), v101, v102, v103, v104, v104, v105, v106, v107, v108, v109, v110, v111, v112, v113, v114, v115, v116, v117, v118, (slot l99 24), (slot l99 25), (slot l99 26), v104, v104] h)

noncomputable def rs_35_10 (l99 : List Value) (a4 : Value) (a0 : Value) (v97 : Value) (N98 : List Value → Heap → Prop) (v92 : Value) (a2 : Value) (a1 : Value) (v91 : Value) (a3 : Value) (h : Heap) (κ : Value → Heap → Prop) : Prop :=
 binB False Tryd.prog .lss 3 false false (slot l99 26) (slot l99 28) h fun v100 h =>
 CondW v100 (
 rs_35_9 l99 a4 a0 v97 N98 v100 h) (
 binB False Tryd.prog .sub 3 false false v92 (slot l99 26) h fun v120 h =>
 JoinR (fun N121 =>
 rs_35_8 l99 a2 v120 a0 a4 N121 h) fun l122 h =>
 JoinR (fun N132 =>
 rs_35_6 a1 l99 v91 a0 a4 N132 h) fun l133 h =>
 rs_35_7 v91 v120 a3 a0 a4 h κ)

noncomputable def rs_35_11 (a1 : Value) (a3 : Value) (a2 : Value) (a4 : Value) (a0 : Value) (h : Heap) (κ : Value → Heap → Prop) : Prop :=
 binB False Tryd.prog .add 3 false false a1 a3 h fun v88 h =>
 convI False .u64 v88 h fun v89 h =>
 binB False Tryd.prog .shr 71 true false v89 (Value.int .u64 (1)) h fun v90 h =>
 convI False .i64 v90 h fun v91 h =>
 binB False Tryd.prog .add 3 false false v91 a2 h fun v92 h =>
 JoinR (fun N93 =>
 binB False Tryd.prog .gtr 3 false false a2 v91 h fun v95 h =>
 CondW v95 (
 binB False Tryd.prog .sub 3 false false v92 a3 h fun v96 h =>
 N93 [a2, v91, v95, v92, a3, v96, v91, undef, v96, undef, v91] h) (
 N93 [a2, v91, v95, undef, undef, undef, undef, a1, a1, a2, a2] h)) fun l94 h =>
 binB False Tryd.prog .sub 3 true false v92 (Value.int .i64 (1)) h fun v97 h =>
 LoopR [undef, undef, undef, undef, undef, undef, undef, undef, undef, undef, undef, undef, undef, undef, undef, undef, undef, undef, undef, undef, undef, undef, undef, undef, undef, undef, (slot l94 8), undef, (slot l94 10)] h fun l99 h N98 =>
 rs_35_10 l99 a4 a0 v97 N98 v92 a2 a1 v91 a3 h κ

/-- slices.symMergeCmpFunc[latchstring/api.Held] -/
theorem rs_35 (a0 a1 a2 a3 a4 : Value) (h : Heap) (κ : Value → Heap → Prop) : BodyW Tryd.prog 35 [a0, a1, a2, a3, a4] h κ = (
 binB False Tryd.prog .sub 3 false false a2 a1 h fun v0 h =>
 binB False Tryd.prog .eql 3 true false v0 (Value.int .i64 (1)) h fun v1 h =>
 CondW v1 (
 LoopR [undef, undef, undef, undef, undef, undef, undef, undef, undef, undef, undef, undef, undef, undef, undef, undef, undef, undef, undef, undef, undef, undef, undef, a2, undef, a3] h fun l3 h N2 =>
 rs_35_2 l3 a4 a0 a1 N2 h κ) (
 binB False Tryd.prog .sub 3 false false a3 a2 h fun v44 h =>
 binB False Tryd.prog .eql 3 true false v44 (Value.int .i64 (1)) h fun v45 h =>
 CondW v45 (
 LoopR [undef, undef, undef, undef, undef, undef, undef, undef, undef, undef, undef, undef, undef, undef, undef, undef, undef, undef, undef, undef, undef, undef, undef, undef, a1, undef, a2] h fun l47 h N46 =>
 rs_35_5 l47 a4 a0 a2 N46 h κ) (
 rs_35_11 a1 a3 a2 a4 a0 h κ))) := by kernel_rfl

noncomputable def rs_37_0 (l3 : List Value) (a2 : Value) (a0 : Value) (a4 : Value) (N2 : List Value → Heap → Prop) (v4 : Value) (h : Heap) : Prop :=
 binB False Tryd.prog .gtr 3 false false (slot l3 17) (slot l3 33) h fun v5 h =>
 CondW v5 (
 binB False Tryd.prog .sub 3 false false a2 (slot l3 17) h fun v6 h =>
 CallW Tryd.prog 39 [a0, v6, a2, (slot l3 33), a4] h fun v7 h =>
 binB False Tryd.prog .sub 3 false false (slot l3 17) (slot l3 33) h fun v8 h =>
 N2 [(slot l3 17), (slot l3 33), v4, (slot l3 17), (slot l3 33), v5, a0, a2, (slot l3 17), v6, a2, (slot l3 33), a4, v7, (slot l3 17), (slot l3 33), v8, v8, (slot l3 18), (slot l3 19), (slot l3 20), (slot l3 21), (slot l3 22), (slot l3 23), (slot l3 24), (slot l3 25), (slot l3 26), (slot l3 27), (slot l3 28), (slot l3 29), (slot l3 30), (slot l3 31), (slot l3 32), (slot l3 33)] h) (
 binB False Tryd.prog .sub 3 false false a2 (slot l3 17) h fun v9 h =>
 binB False Tryd.prog .add 3 false false a2 (slot l3 33) h fun v10 h =>
 binB False Tryd.prog .sub 3 false false v10 (slot l3 17) h fun v11 h =>
 CallW Tryd.prog 39 [a0, v9, v11, (slot l3 17), a4] h fun v12 h =>
 binB False Tryd.prog .sub 3 false false (slot l3 33) (slot l3 17) h fun v13 h =>
 N2 [(slot l3 17), (slot l3 33), v4, (slot l3 17), (slot l3 33), v5, (slot l3 6), (slot l3 7), (slot l3 8), (slot l3 9), (slot l3 10), (slot l3 11), (slot l3 12), (slot l3 13), (slot l3 14), (slot l3 15), (slot l3 16), (slot l3 17), a0, a2, (slot l3 17), v9, a2, (slot l3 33), v10, (slot l3 17), v11, (slot l3 17), a4, v12, (slot l3 33), (slot l3 17), v13, v13] h)

/-- slices.rotateCmpFunc[latchstring/api.Held] -/
theorem rs_37 (a0 a1 a2 a3 a4 : Value) (h : Heap) (κ : Value → Heap → Prop) : BodyW Tryd.prog 37 [a0, a1, a2, a3, a4] h κ = (
 binB False Tryd.prog .sub 3 false false a2 a1 h fun v0 h =>
 binB False Tryd.prog .sub 3 false false a3 a2 h fun v1 h =>
 LoopR [undef, undef, undef, undef, undef, undef, undef, undef, undef, undef, undef, undef, undef, undef, undef, undef, undef, v0, undef, undef, undef, undef, undef, undef, undef, undef, undef, undef, undef, undef, undef, undef, undef, v1] h fun l3 h N2 =>
 binB False Tryd.prog .neq 3 false false (slot l3 17) (slot l3 33) h fun v4 h =>
 CondW v4 (
 rs_37_0 l3 a2 a0 a4 N2 v4 h) (
 binB False Tryd.prog .sub 3 false false a2 (slot l3 17) h fun v14 h =>
 CallW Tryd.prog 39 [a0, v14, a2, (slot l3 17), a4] h fun v15 h =>
 κ (Value.tuple (Array.mk [])) h)) := by kernel_rfl

noncomputable def rs_39_0 (a0 : Value) (a1 : Value) (l1 : List Value) (a2 : Value) (N0 : List Value → Heap → Prop) (a3 : Value) (v2 : Value) (h : Heap) : Prop :=
 RdK (some a0) h fun v3 h =>
 RdK (some a1) h fun v4 h =>
 RdK (some (slot l1 27)) h fun v5 h =>
 RdK (binB none Tryd.prog .add 3 false false v4 v5 h fun v _ => some v) h fun v6 h =>
 RdK (some a0) h fun v7 h =>
 RdK (some a2) h fun v8 h =>
 RdK (some (slot l1 27)) h fun v9 h =>
 RdK (binB none Tryd.prog .add 3 false false v8 v9 h fun v _ => some v) h fun v10 h =>
 RdK (some a0) h fun v11 h =>
 RdK (some a2) h fun v12 h =>
 RdK (some (slot l1 27)) h fun v13 h =>
 RdK (binB none Tryd.prog .add 3 false false v12 v13 h fun v _ => some v) h fun v14 h =>
 RdK (indexAddrS none 4 v11 v14 h fun v _ => some v) h fun v15 h =>
 RdK (loadA none 4 v15 h fun v _ => some v) h fun v16 h =>
 RdK (some a0) h fun v17 h =>
 RdK (some a1) h fun v18 h =>
 RdK (some (slot l1 27)) h fun v19 h =>
 RdK (binB none Tryd.prog .add 3 false false v18 v19 h fun v _ => some v) h fun v20 h =>
 RdK (indexAddrS none 4 v17 v20 h fun v _ => some v) h fun v21 h =>
 RdK (loadA none 4 v21 h fun v _ => some v) h fun v22 h =>
 RdK (indexAddrS none 4 v3 v6 h fun v _ => some v) h fun v23 h =>
 storeV False 4 v23 v16 h fun v24 h =>
 SameK ((reV (some a0) v7) && ((reV (some a2) v8) && ((reV (some (slot l1 27)) v9) && ((reV (binB none Tryd.prog .add 3 false false v8 v9 h fun v _ => some v) v10) && true)))) (RdK (indexAddrS none 4 v7 v10 h fun v _ => some v) h fun v25 h =>
 storeV False 4 v25 v22 h fun v26 h =>
 binB False Tryd.prog .add 3 true false (slot l1 27) (Value.int .i64 (1)) h fun v27 h =>
 N0 [(slot l1 27), a3, v2, v3, v4, v5, v6, v7, v8, v9, v10, v11, v12, v13, v14, v15, v16, v17, v18, v19, v20, v21, v22, v23, v25, (slot l1 27), v27, v27] h)

/-- slices.swapRangeCmpFunc[latchstring/api.Held] -/
theorem rs_39 (a0 a1 a2 a3 a4 : Value) (h : Heap) (κ : Value → Heap → Prop) : BodyW Tryd.prog 39 [a0, a1, a2, a3, a4] h κ = (
 LoopR [undef, undef, undef, undef, undef, undef, undef, undef, undef, undef, undef, undef, undef, undef, undef, undef, undef, undef, undef, undef, undef, undef, undef, undef, undef, undef, undef, (Value.int .i64 (0))] h fun l1 h N0 =>
 binB False Tryd.prog .lss 3 false false (slot l1 27) a3 h fun v2 h =>
 CondW v2 (
 rs_39_0 a0 a1 l1 a2 N0 a3 v2 h) (
 κ (Value.tuple (Array.mk [])) h)) := by kernel_rfl

end Go.Proofs
