/-
  PROVED HERE: a part of the proof, by a calculus of weakest conditions over an abstract heap (RZ).
-/
import Derived.Test.YtijmemedhkgplaaV4
import Derived.Test.YtijmemedhkgplaaProg
import Derived.KernelRfl
set_option linter.unusedVariables false
set_option linter.unusedSimpArgs false
set_option maxRecDepth 100000
namespace Go.Proofs
open Go.Vai

noncomputable def rs_3_0 (b28 : Nat) (v8 : Value) (a3 : Value) (v20 : Value) (v9 : Value) (h : Heap) (κ : Value → Heap → Prop) : Prop :=
 fieldAddrB False 1 (ptrTo b28) h fun v105 h =>
 load1 False v105 h fun v106 h =>
 CallW Try.prog 10 [v8, a3, v106] h fun v107 h =>
 binB False Try.prog .eql 41 true false v107 (Value.int .i64 (0)) h fun v108 h =>
 GuardW (wantV v108 true) (fun K109 =>
 K109 v8 h) h fun v110 h =>
 GuardW (wantV v108 true) (fun K111 =>
 CallW Try.prog 8 [v110] h K111) h fun v112 h =>
 GuardW (wantV v108 true) (fun K113 =>
 K113 v20 h) h fun v114 h =>
 GuardW (wantV v108 true) (fun K115 =>
 CallW Try.prog 11 [v112, v114] h K115) h fun v116 h =>
 pickB False v108 v116 (Value.bool false) h fun v117 h =>
 GuardW (wantV v117 true) (fun K118 =>
 K118 v9 h) h fun v119 h =>
 GuardW (wantV v117 true) (fun K120 =>
 K120 a3 h) h fun v121 h =>
 GuardW (wantV v117 true) (fun K122 =>
 CallW Try.prog 13 [v119, v121] h K122) h fun v123 h =>
 pickB False v117 v123 (Value.bool false) h fun v124 h =>
 κ v124 h

noncomputable def rs_3_1 (v8 : Value) (v20 : Value) (v24 : Value) (v31 : Value) (h : Heap) (κ : Value → Heap → Prop) : Prop :=
 CallW Try.prog 8 [v8] h fun v33 h =>
 CallW Try.prog 11 [v33, v20] h fun v34 h =>
 GuardW (wantV v34 true) (fun K35 =>
 K35 v24 h) h fun v36 h =>
 GuardW (wantV v34 true) (fun K37 =>
 K37 v36 h) h fun v38 h =>
 GuardW (wantV v38 false) (fun K39 =>
 K39 v31 h) h fun v40 h =>
 GuardW (wantV v38 false) (fun K41 =>
 binB False Try.prog .eql 41 true false v40 (Value.int .i64 (5)) h K41) h fun v42 h =>
 GuardW (wantV v34 true) (fun K43 =>
 pickB False v38 (Value.bool true) v42 h K43) h fun v44 h =>
 pickB False v34 v44 (Value.bool false) h fun v45 h =>
 κ v45 h

noncomputable def rs_3_2 (v8 : Value) (a3 : Value) (b26 : Nat) (a4 : Value) (v24 : Value) (b28 : Nat) (v20 : Value) (v9 : Value) (h : Heap) (κ : Value → Heap → Prop) : Prop :=
 CallW Try.prog 9 [v8, a3] h fun v46 h =>
 extractB False 0 v46 h fun v47 h =>
 extractB False 1 v46 h fun v48 h =>
 extractB False 2 v46 h fun v49 h =>
 cellsK False [(Value.int .i64 (0)), (Value.int .i64 (0))] 31 false fun o50 => newBlock False o50 h fun b51 h =>
 cellsK False [(Value.int .i64 (0)), (Value.int .i64 (0)), (Value.int .i64 (0)), (Value.int .i64 (0)), (Value.int .i64 (0))] 38 false fun o52 => newBlock False o52 h fun b53 h =>
 storeV False 2 (ptrTo b51) v47 h fun v54 h =>
 storeV False 5 (ptrTo b53) v48 h fun v55 h =>
 loadA False 2 (ptrTo b26) h fun v56 h =>
 CallW Try.prog 12 [v8, v56, a4] h fun v57 h =>
 extractB False 0 v57 h fun v58 h =>
 extractB False 1 v57 h fun v59 h =>
 unB False .not v24 h fun v60 h =>
 GuardW (wantV v60 false) (fun K61 =>
 fieldAddrB False 4 (ptrTo b28) h K61) h fun v62 h =>
 GuardW (wantV v60 false) (fun K63 =>
 load1 False v62 h K63) h fun v64 h =>
 GuardW (wantV v60 false) (fun K65 =>
 binB False Try.prog .neq 3 true false v64 (Value.int .i64 (0)) h K65) h fun v66 h =>
 pickB False v60 (Value.bool true) v66 h fun v67 h =>
 GuardW (wantV v67 false) (fun K68 =>
 K68 v49 h) h fun v69 h =>
 GuardW (wantV v67 false) (fun K70 =>
 unB False .not v69 h K70) h fun v71 h =>
 pickB False v67 (Value.bool true) v71 h fun v72 h =>
 GuardW (wantV v72 false) (fun K73 =>
 fieldAddrB False 1 (ptrTo b53) h K73) h fun v74 h =>
 GuardW (wantV v72 false) (fun K75 =>
 load1 False v74 h K75) h fun v76 h =>
 GuardW (wantV v72 false) (fun K77 =>
 K77 a4 h) h fun v78 h =>
 GuardW (wantV v72 false) (fun K79 =>
 binB False Try.prog .neq 3 false false v76 v78 h K79) h fun v80 h =>
 pickB False v72 (Value.bool true) v80 h fun v81 h =>
 GuardW (wantV v81 false) (fun K82 =>
 fieldAddrB False 2 (ptrTo b53) h K82) h fun v83 h =>
 GuardW (wantV v81 false) (fun K84 =>
 load1 False v83 h K84) h fun v85 h =>
 GuardW (wantV v81 false) (fun K86 =>
 fieldAddrB False 2 (ptrTo b28) h K86) h fun v87 h =>
 GuardW (wantV v81 false) (fun K88 =>
 load1 False v87 h K88) h fun v89 h =>
 GuardW (wantV v81 false) (fun K90 =>
 binB False Try.prog .neq 32 false false v85 v89 h K90) h fun v91 h =>
 pickB False v81 (Value.bool true) v91 h fun v92 h =>
 GuardW (wantV v92 false) (fun K93 =>
 K93 v59 h) h fun v94 h =>
 GuardW (wantV v92 false) (fun K95 =>
 unB False .not v94 h K95) h fun v96 h =>
 pickB False v92 (Value.bool true) v96 h fun v97 h =>
 GuardW (wantV v97 false) (fun K98 =>
 K98 v58 h) h fun v99 h =>
 GuardW (wantV v97 false) (fun K100 =>
 K100 a3 h) h fun v101 h =>
 GuardW (wantV v97 false) (fun K102 =>
 binB False Try.prog .neq 3 false false v99 v101 h K102) h fun v103 h =>
 pickB False v97 (Value.bool true) v103 h fun v104 h =>
 CondW v104 (
 κ (Value.bool false) h) (
 rs_3_0 b28 v8 a3 v20 v9 h κ)

noncomputable def rs_3_3 (v8 : Value) (a3 : Value) (a4 : Value) (v9 : Value) (h : Heap) (κ : Value → Heap → Prop) : Prop :=
 CallW Try.prog 8 [v8] h fun v20 h =>
 CallW Try.prog 9 [v8, a3] h fun v21 h =>
 extractB False 0 v21 h fun v22 h =>
 extractB False 1 v21 h fun v23 h =>
 extractB False 2 v21 h fun v24 h =>
 cellsK False [(Value.int .i64 (0)), (Value.int .i64 (0))] 31 false fun o25 => newBlock False o25 h fun b26 h =>
 cellsK False [(Value.int .i64 (0)), (Value.int .i64 (0)), (Value.int .i64 (0)), (Value.int .i64 (0)), (Value.int .i64 (0))] 38 false fun o27 => newBlock False o27 h fun b28 h =>
 storeV False 2 (ptrTo b26) v22 h fun v29 h =>
 storeV False 5 (ptrTo b28) v23 h fun v30 h =>
 CallW Try.prog 10 [v8, a3, a4] h fun v31 h =>
 binB False Try.prog .neq 41 true false v31 (Value.int .i64 (0)) h fun v32 h =>
 CondW v32 (
 rs_3_1 v8 v20 v24 v31 h κ) (
 rs_3_2 v8 a3 b26 a4 v24 b28 v20 v9 h κ)

noncomputable def rs_3_4 (a2 : Value) (l13 : List Value) (v8 : Value) (N12 : List Value → Heap → Prop) (a3 : Value) (a4 : Value) (v9 : Value) (h : Heap) (κ : Value → Heap → Prop) : Prop :=
 lenSli False a2 h fun v14 h =>
 binB False Try.prog .lss 3 false false (slot l13 12) v14 h fun v15 h =>
 CondW v15 (
 indexAddrS False 6 a2 (slot l13 12) h fun v16 h =>
 loadA False 6 v16 h fun v17 h =>
 CallW Try.prog 7 [v8, v17] h fun v18 h =>
 binB False Try.prog .add 3 true false (slot l13 12) (Value.int .i64 (1)) h fun v19 h =>
 N12 [(slot l13 12), a2, v14, v15, v8, a2, (slot l13 12), v16, v17, v18, (slot l13 12), v19, v19] h) (
 rs_3_3 v8 a3 a4 v9 h κ)

noncomputable def rs_3_5 (a0 : Value) (a1 : Value) (a2 : Value) (a3 : Value) (a4 : Value) (h : Heap) (κ : Value → Heap → Prop) : Prop :=
 CallW Try.prog 6 [a0, (Value.int .i64 (5))] h fun v4 h =>
 binB False Try.prog .add 3 true false (Value.int .i64 (1)) v4 h fun v5 h =>
 CallW Try.prog 6 [a1, (Value.int .i64 (12))] h fun v6 h =>
 CallW Try.prog 5 [v5, v6] h fun v7 h =>
 extractB False 0 v7 h fun v8 h =>
 extractB False 1 v7 h fun v9 h =>
 extractB False 2 v7 h fun v10 h =>
 unB False .not v10 h fun v11 h =>
 CondW v11 (
 κ (Value.bool false) h) (
 LoopR [undef, undef, undef, undef, undef, undef, undef, undef, undef, undef, undef, undef, (Value.int .i64 (0))] h fun l13 h N12 =>
 rs_3_4 a2 l13 v8 N12 a3 a4 v9 h κ)

/-- latchstring/latchstringlaw11.BucketHands -/
theorem rs_3 (a0 a1 a2 a3 a4 : Value) (h : Heap) (κ : Value → Heap → Prop) : BodyW Try.prog 3 [a0, a1, a2, a3, a4] h κ = (
 CallW Try.prog 4 [] h fun v0 h =>
 unB False .not v0 h fun v1 h =>
 CondW v1 (
 κ (Value.bool false) h) (
 lenSli False a2 h fun v2 h =>
 binB False Try.prog .gtr 3 true false v2 (Value.int .i64 (50)) h fun v3 h =>
 CondW v3 (
 κ (Value.bool true) h) (
 rs_3_5 a0 a1 a2 a3 a4 h κ))) := by kernel_rfl

/-- latchstring/latchstringlaw11.made -/
theorem rs_5 (a0 a1 : Value) (h : Heap) (κ : Value → Heap → Prop) : BodyW Try.prog 5 [a0, a1] h κ = (
 CallW Try.prog 16 [a1] h fun v0 h =>
 extractB False 0 v0 h fun v1 h =>
 extractB False 1 v0 h fun v2 h =>
 binB False Try.prog .neq 41 true false v2 (Value.int .i64 (0)) h fun v3 h =>
 CondW v3 (
 κ (Value.tuple (Array.mk [(Value.pointer none), (Value.pointer none), (Value.bool false)])) h) (
 CallW Try.prog 17 [a0, v1] h fun v4 h =>
 extractB False 0 v4 h fun v5 h =>
 extractB False 1 v4 h fun v6 h =>
 binB False Try.prog .eql 41 true false v6 (Value.int .i64 (0)) h fun v7 h =>
 κ (Value.tuple (Array.mk [v5, v1, v7])) h)) := by kernel_rfl

noncomputable def rs_6_0 (a0 : Value) (a1 : Value) (h : Heap) (κ : Value → Heap → Prop) : Prop :=
 binB False Try.prog .rem 3 false false a0 a1 h fun v1 h =>
 JoinR (fun N2 =>
 binB False Try.prog .lss 3 true false v1 (Value.int .i64 (0)) h fun v4 h =>
 CondW v4 (
 binB False Try.prog .add 3 false false v1 a1 h fun v5 h =>
 N2 [v1, v4, v1, a1, v5, v5] h) (
 N2 [v1, v4, undef, undef, undef, v1] h)) fun l3 h =>
 κ (slot l3 5) h

/-- latchstring/latchstringkit.Pick -/
theorem rs_6 (a0 a1 : Value) (h : Heap) (κ : Value → Heap → Prop) : BodyW Try.prog 6 [a0, a1] h κ = (
 binB False Try.prog .lss 3 true false a1 (Value.int .i64 (1)) h fun v0 h =>
 CondW v0 (
 κ (Value.int .i64 (0)) h) (
 rs_6_0 a0 a1 h κ)) := by kernel_rfl

noncomputable def rs_7_0 (b1 : Nat) (a0 : Value) (h : Heap) (κ : Value → Heap → Prop) : Prop :=
 fieldAddrB False 1 (ptrTo b1) h fun v25 h =>
 loadA False 2 v25 h fun v26 h =>
 fieldAddrB False 4 (ptrTo b1) h fun v27 h =>
 load1 False v27 h fun v28 h =>
 fieldAddrB False 5 (ptrTo b1) h fun v29 h =>
 load1 False v29 h fun v30 h =>
 CallW Try.prog 14 [a0, v26, v28, v30] h fun v31 h =>
 κ (Value.tuple (Array.mk [])) h

noncomputable def rs_7_1 (v4 : Value) (b1 : Nat) (a0 : Value) (h : Heap) (κ : Value → Heap → Prop) : Prop :=
 binB False Try.prog .eql 3 true false v4 (Value.int .i64 (5)) h fun v19 h =>
 CondW v19 (
 fieldAddrB False 3 (ptrTo b1) h fun v20 h =>
 load1 False v20 h fun v21 h =>
 fieldAddrB False 4 (ptrTo b1) h fun v22 h =>
 load1 False v22 h fun v23 h =>
 CallW Try.prog 10 [a0, v21, v23] h fun v24 h =>
 κ (Value.tuple (Array.mk [])) h) (
 rs_7_0 b1 a0 h κ)

noncomputable def rs_7_2 (v4 : Value) (b1 : Nat) (a0 : Value) (h : Heap) (κ : Value → Heap → Prop) : Prop :=
 binB False Try.prog .eql 3 true false v4 (Value.int .i64 (4)) h fun v15 h =>
 CondW v15 (
 fieldAddrB False 3 (ptrTo b1) h fun v16 h =>
 load1 False v16 h fun v17 h =>
 CallW Try.prog 20 [a0, v17] h fun v18 h =>
 κ (Value.tuple (Array.mk [])) h) (
 rs_7_1 v4 b1 a0 h κ)

noncomputable def rs_7_3 (v4 : Value) (b1 : Nat) (a0 : Value) (h : Heap) (κ : Value → Heap → Prop) : Prop :=
 binB False Try.prog .eql 3 true false v4 (Value.int .i64 (3)) h fun v11 h =>
 CondW v11 (
 fieldAddrB False 3 (ptrTo b1) h fun v12 h =>
 load1 False v12 h fun v13 h =>
 CallW Try.prog 19 [a0, v13] h fun v14 h =>
 κ (Value.tuple (Array.mk [])) h) (
 rs_7_2 v4 b1 a0 h κ)

/-- latchstring/latchstringlaw11.call -/
theorem rs_7 (a0 a1 : Value) (h : Heap) (κ : Value → Heap → Prop) : BodyW Try.prog 7 [a0, a1] h κ = (
 cellsK False (Value.cells a1).toList 34 false fun o0 => newBlock False o0 h fun b1 h =>
 fieldAddrB False 0 (ptrTo b1) h fun v2 h =>
 load1 False v2 h fun v3 h =>
 CallW Try.prog 6 [v3, (Value.int .i64 (6))] h fun v4 h =>
 binB False Try.prog .eql 3 true false v4 (Value.int .i64 (2)) h fun v5 h =>
 CondW v5 (
 fieldAddrB False 3 (ptrTo b1) h fun v6 h =>
 load1 False v6 h fun v7 h =>
 fieldAddrB False 5 (ptrTo b1) h fun v8 h =>
 load1 False v8 h fun v9 h =>
 CallW Try.prog 18 [a0, v7, v9] h fun v10 h =>
 κ (Value.tuple (Array.mk [])) h) (
 rs_7_3 v4 b1 a0 h κ)) := by kernel_rfl

noncomputable def rs_8_0 (v1 : Value) (l4 : List Value) (a0 : Value) (N3 : List Value → Heap → Prop) (v5 : Value) (h : Heap) : Prop :=
 indexAddrS False 2 v1 (slot l4 23) h fun v6 h =>
 loadA False 2 v6 h fun v7 h =>
 cellsK False [(Value.int .i64 (0)), (Value.int .i64 (0))] 31 false fun o8 => newBlock False o8 h fun b9 h =>
 storeV False 2 (ptrTo b9) v7 h fun v10 h =>
 RdK (some a0) h fun v11 h =>
 RdK (nilB none v11 h fun v _ => some v) h fun v12 h =>
 RdK (fieldAddrB none 2 v12 h fun v _ => some v) h fun v13 h =>
 RdK (load1 none v13 h fun v _ => some v) h fun v14 h =>
 RdK (loadA none 2 (ptrTo b9) h fun v _ => some v) h fun v15 h =>
 RdK (lookupB none Try.prog 31 (Value.pointer none) false v14 v15 h fun v _ => some v) h fun v16 h =>
 RdK (nilB none v16 h fun v _ => some v) h fun v17 h =>
 RdK (loadA none 4 v17 h fun v _ => some v) h fun v18 h =>
 AlK (cellsK none [(Value.int .i64 (0)), (Value.int .i64 (0)), (Value.slice none 0 0), (Value.int .i64 (0))] 64 false fun o => some (o, ptrTo)) h fun v19 h =>
 storeV False 4 v19 v18 h fun v20 h =>
 fieldAddrB False 2 v19 h fun v21 h =>
 load1 False v21 h fun v22 h =>
 CallW Try.prog 22 [v22] h fun v23 h =>
 fieldAddrB False 2 v19 h fun v24 h =>
 storeV False 1 v24 v23 h fun v25 h =>
 loadA False 4 v19 h fun v26 h =>
 fillB False [(0, 4)] [v26] (repeatL [(Value.int .i64 (0)), (Value.int .i64 (0)), (Value.slice none 0 0), (Value.int .i64 (0))] 1) fun cs29 => cellsK False cs29 64 false fun o27 => newBlock False o27 h fun b28 h =>
 appendB False 64 4 [(Value.int .i64 (0)), (Value.int .i64 (0)), (Value.slice none 0 0), (Value.int .i64 (0))] false (slot l4 21) (sliceTo 1 1 b28) h fun v30 h =>
 binB False Try.prog .add 3 true false (slot l4 23) (Value.int .i64 (1)) h fun v31 h =>
 N3 [v5, v6, v7, (ptrTo b9), v11, v12, v13, v14, v15, v16, v17, v18, v19, v21, v22, v23, v24, (slot l4 21), v26, (sliceTo 1 1 b28), v30, v30, v31, v31] h

noncomputable def rs_8_1 (a0 : Value) (h : Heap) (κ : Value → Heap → Prop) : Prop :=
 CallW Try.prog 21 [a0] h fun v1 h =>
 lenSli False v1 h fun v2 h =>
 LoopR [undef, undef, undef, undef, undef, undef, undef, undef, undef, undef, undef, undef, undef, undef, undef, undef, undef, undef, undef, undef, undef, (Value.slice none 0 0), undef, (Value.int .i64 (0))] h fun l4 h N3 =>
 binB False Try.prog .lss 3 false false (slot l4 23) v2 h fun v5 h =>
 CondW v5 (
 rs_8_0 v1 l4 a0 N3 v5 h) (
 κ (slot l4 21) h)

/-- (*latchstring/bucket.Bucket).Heads -/
theorem rs_8 (a0 : Value) (h : Heap) (κ : Value → Heap → Prop) : BodyW Try.prog 8 [a0] h κ = (
 binB False Try.prog .eql 24 true false a0 (Value.pointer none) h fun v0 h =>
 CondW v0 (
 κ (Value.slice none 0 0) h) (
 rs_8_1 a0 h κ)) := by kernel_rfl

noncomputable def rs_9_0 (v4 : Value) (a1 : Value) (b1 : Nat) (b3 : Nat) (h : Heap) (κ : Value → Heap → Prop) : Prop :=
 nilB False v4 h fun v12 h =>
 loadA False 4 v12 h fun v13 h =>
 CallW Try.prog 24 [v13, a1] h fun v14 h =>
 extractB False 0 v14 h fun v15 h =>
 extractB False 1 v14 h fun v16 h =>
 cellsK False [(Value.int .i64 (0)), (Value.int .i64 (0)), (Value.int .i64 (0)), (Value.int .i64 (0)), (Value.int .i64 (0))] 38 false fun o17 => newBlock False o17 h fun b18 h =>
 storeV False 5 (ptrTo b18) v15 h fun v19 h =>
 RdK (some v4) h fun v20 h =>
 RdK (nilB none v20 h fun v _ => some v) h fun v21 h =>
 RdK (fieldAddrB none 0 v21 h fun v _ => some v) h fun v22 h =>
 RdK (loadA none 2 v22 h fun v _ => some v) h fun v23 h =>
 RdK (loadA none 5 (ptrTo b18) h fun v _ => some v) h fun v24 h =>
 RdK (some v16) h fun v25 h =>
 storeV False 2 (ptrTo b1) v23 h fun v26 h =>
 SameK ((reV (loadA none 5 (ptrTo b18) h fun v _ => some v) v24) && ((reV (some v16) v25) && true)) (storeV False 5 (ptrTo b3) v24 h fun v27 h =>
 SameK ((reV (some v16) v25) && true) (loadA False 2 (ptrTo b1) h fun v28 _ => loadA False 5 (ptrTo b3) h fun v29 _ => κ (Value.tuple (Array.mk [v28, v29, v25])) h))

/-- (*latchstring/bucket.Bucket).Get -/
theorem rs_9 (a0 a1 : Value) (h : Heap) (κ : Value → Heap → Prop) : BodyW Try.prog 9 [a0, a1] h κ = (
 cellsK False [(Value.int .i64 (0)), (Value.int .i64 (0))] 31 false fun o0 => newBlock False o0 h fun b1 h =>
 cellsK False [(Value.int .i64 (0)), (Value.int .i64 (0)), (Value.int .i64 (0)), (Value.int .i64 (0)), (Value.int .i64 (0))] 38 false fun o2 => newBlock False o2 h fun b3 h =>
 CallW Try.prog 23 [a0, a1] h fun v4 h =>
 binB False Try.prog .eql 65 true false v4 (Value.pointer none) h fun v5 h =>
 CondW v5 (
 fillB False [] [] [(Value.int .i64 (0)), (Value.int .i64 (0))] fun cs6 =>
 fillB False [] [] [(Value.int .i64 (0)), (Value.int .i64 (0)), (Value.int .i64 (0)), (Value.int .i64 (0)), (Value.int .i64 (0))] fun cs7 =>
 storeV False 2 (ptrTo b1) (Value.agg (Array.mk cs6)) h fun v8 h =>
 storeV False 5 (ptrTo b3) (Value.agg (Array.mk cs7)) h fun v9 h =>
 loadA False 2 (ptrTo b1) h fun v10 _ => loadA False 5 (ptrTo b3) h fun v11 _ => κ (Value.tuple (Array.mk [v10, v11, (Value.bool false)])) h) (
 rs_9_0 v4 a1 b1 b3 h κ)) := by kernel_rfl

noncomputable def rs_10_0 (v0 : Value) (a1 : Value) (a2 : Value) (a0 : Value) (h : Heap) (κ : Value → Heap → Prop) : Prop :=
 nilB False v0 h fun v3 h =>
 loadA False 4 v3 h fun v4 h =>
 CallW Try.prog 26 [v4, a1, a2] h fun v5 h =>
 extractB False 0 v5 h fun v6 h =>
 extractB False 1 v5 h fun v7 h =>
 cellsK False [(Value.int .i64 (0)), (Value.int .i64 (0)), (Value.slice none 0 0), (Value.int .i64 (0))] 64 false fun o8 => newBlock False o8 h fun b9 h =>
 storeV False 4 (ptrTo b9) v6 h fun v10 h =>
 JoinR (fun N11 =>
 binB False Try.prog .eql 41 true false v7 (Value.int .i64 (0)) h fun v13 h =>
 CondW v13 (
 loadA False 4 (ptrTo b9) h fun v14 h =>
 CallW Try.prog 27 [a0, v14] h fun v15 h =>
 N11 [v7, v13, a0, v14, v15] h) (
 N11 [v7, v13, undef, undef, undef] h)) fun l12 h =>
 κ v7 h

/-- (*latchstring/bucket.Bucket).Hand -/
theorem rs_10 (a0 a1 a2 : Value) (h : Heap) (κ : Value → Heap → Prop) : BodyW Try.prog 10 [a0, a1, a2] h κ = (
 CallW Try.prog 23 [a0, a1] h fun v0 h =>
 binB False Try.prog .eql 65 true false v0 (Value.pointer none) h fun v1 h =>
 CondW v1 (
 CallW Try.prog 25 [a0] h fun v2 h =>
 κ v2 h) (
 rs_10_0 v0 a1 a2 a0 h κ)) := by kernel_rfl

noncomputable def rs_11_0 (a0 : Value) (l4 : List Value) (a1 : Value) (N3 : List Value → Heap → Prop) (v5 : Value) (v6 : Value) (h : Heap) (κ : Value → Heap → Prop) : Prop :=
 RdK (some a0) h fun v7 h =>
 RdK (some (slot l4 45)) h fun v8 h =>
 RdK (indexAddrS none 4 v7 v8 h fun v _ => some v) h fun v9 h =>
 RdK (fieldAddrB none 0 v9 h fun v _ => some v) h fun v10 h =>
 RdK (loadA none 2 v10 h fun v _ => some v) h fun v11 h =>
 RdK (some a1) h fun v12 h =>
 RdK (some (slot l4 45)) h fun v13 h =>
 RdK (indexAddrS none 4 v12 v13 h fun v _ => some v) h fun v14 h =>
 RdK (fieldAddrB none 0 v14 h fun v _ => some v) h fun v15 h =>
 RdK (loadA none 2 v15 h fun v _ => some v) h fun v16 h =>
 RdK (binB none Try.prog .neq 31 false false v11 v16 h fun v _ => some v) h fun v17 h =>
 RdK (some v17) h fun v18 h =>
 GuardW (wantV v18 false) (fun K19 =>
 RdK (some a0) h K19) h fun v20 h =>
 GuardW (wantV v18 false) (fun K21 =>
 RdK (some (slot l4 45)) h K21) h fun v22 h =>
 GuardW (wantV v18 false) (fun K23 =>
 RdK (indexAddrS none 4 v20 v22 h fun v _ => some v) h K23) h fun v24 h =>
 GuardW (wantV v18 false) (fun K25 =>
 RdK (fieldAddrB none 3 v24 h fun v _ => some v) h K25) h fun v26 h =>
 GuardW (wantV v18 false) (fun K27 =>
 RdK (load1 none v26 h fun v _ => some v) h K27) h fun v28 h =>
 GuardW (wantV v18 false) (fun K29 =>
 RdK (some a1) h K29) h fun v30 h =>
 GuardW (wantV v18 false) (fun K31 =>
 RdK (some (slot l4 45)) h K31) h fun v32 h =>
 GuardW (wantV v18 false) (fun K33 =>
 RdK (indexAddrS none 4 v30 v32 h fun v _ => some v) h K33) h fun v34 h =>
 GuardW (wantV v18 false) (fun K35 =>
 RdK (fieldAddrB none 3 v34 h fun v _ => some v) h K35) h fun v36 h =>
 GuardW (wantV v18 false) (fun K37 =>
 RdK (load1 none v36 h fun v _ => some v) h K37) h fun v38 h =>
 GuardW (wantV v18 false) (fun K39 =>
 RdK (binB none Try.prog .neq 3 false false v28 v38 h fun v _ => some v) h K39) h fun v40 h =>
 RdK (pickB none v18 (Value.bool true) v40 h fun v _ => some v) h fun v41 h =>
 RdK (some v41) h fun v42 h =>
 GuardW (wantV v42 false) (fun K43 =>
 RdK (some a0) h K43) h fun v44 h =>
 GuardW (wantV v42 false) (fun K45 =>
 RdK (some (slot l4 45)) h K45) h fun v46 h =>
 GuardW (wantV v42 false) (fun K47 =>
 RdK (indexAddrS none 4 v44 v46 h fun v _ => some v) h K47) h fun v48 h =>
 GuardW (wantV v42 false) (fun K49 =>
 RdK (fieldAddrB none 2 v48 h fun v _ => some v) h K49) h fun v50 h =>
 GuardW (wantV v42 false) (fun K51 =>
 RdK (load1 none v50 h fun v _ => some v) h K51) h fun v52 h =>
 GuardW (wantV v42 false) (fun K53 =>
 RdK (some a1) h K53) h fun v54 h =>
 GuardW (wantV v42 false) (fun K55 =>
 RdK (some (slot l4 45)) h K55) h fun v56 h =>
 GuardW (wantV v42 false) (fun K57 =>
 RdK (indexAddrS none 4 v54 v56 h fun v _ => some v) h K57) h fun v58 h =>
 GuardW (wantV v42 false) (fun K59 =>
 RdK (fieldAddrB none 2 v58 h fun v _ => some v) h K59) h fun v60 h =>
 GuardW (wantV v42 false) (fun K61 =>
 RdK (load1 none v60 h fun v _ => some v) h K61) h fun v62 h =>
 GuardW (wantV v42 false) (fun K63 =>
 CallW Try.prog 28 [v52, v62] h K63) h fun v64 h =>
 GuardW (wantV v42 false) (fun K65 =>
 RdK (unB none .not v64 h fun v _ => some v) h K65) h fun v66 h =>
 RdK (pickB none v42 (Value.bool true) v66 h fun v _ => some v) h fun v67 h =>
 CondW v67 (
 κ (Value.bool false) h) (
 binB False Try.prog .add 3 true false (slot l4 45) (Value.int .i64 (1)) h fun v68 h =>
 N3 [(slot l4 45), a0, v5, v6, v7, v8, v9, v10, v11, v12, v13, v14, v15, v16, v17, v18, v20, v22, v24, v26, v28, v30, v32, v34, v36, v38, v40, v41, v42, v44, v46, v48, v50, v52, v54, v56, v58, v60, v62, v64, v66, v67, (slot l4 42), (slot l4 45), v68, v68] h)

/-- latchstring/latchstringkit.SameHeads -/
theorem rs_11 (a0 a1 : Value) (h : Heap) (κ : Value → Heap → Prop) : BodyW Try.prog 11 [a0, a1] h κ = (
 lenSli False a0 h fun v0 h =>
 lenSli False a1 h fun v1 h =>
 binB False Try.prog .neq 3 false false v0 v1 h fun v2 h =>
 CondW v2 (
 κ (Value.bool false) h) (
 LoopR [undef, undef, undef, undef, undef, undef, undef, undef, undef, undef, undef, undef, undef, undef, undef, undef, undef, undef, undef, undef, undef, undef, undef, undef, undef, undef, undef, undef, undef, undef, undef, undef, undef, undef, undef, undef, undef, undef, undef, undef, undef, undef, (Value.bool false), undef, undef, (Value.int .i64 (0))] h fun l4 h N3 =>
 lenSli False a0 h fun v5 h =>
 binB False Try.prog .lss 3 false false (slot l4 45) v5 h fun v6 h =>
 CondW v6 (
 rs_11_0 a0 l4 a1 N3 v5 v6 h κ) (
 κ (Value.bool true) h))) := by kernel_rfl

noncomputable def rs_12_0 (v12 : Value) (v18 : Value) (h : Heap) (κ : Value → Heap → Prop) : Prop :=
 nilB False v12 h fun v20 h =>
 fieldAddrB False 2 v20 h fun v21 h =>
 load1 False v21 h fun v22 h =>
 indexAddrS False 5 v22 v18 h fun v23 h =>
 fieldAddrB False 0 v23 h fun v24 h =>
 load1 False v24 h fun v25 h =>
 κ (Value.tuple (Array.mk [v25, (Value.bool true)])) h

noncomputable def rs_12_1 (v12 : Value) (b3 : Nat) (h : Heap) (κ : Value → Heap → Prop) : Prop :=
 nilB False v12 h fun v15 h =>
 fieldAddrB False 2 v15 h fun v16 h =>
 load1 False v16 h fun v17 h =>
 CallW Try.prog 29 [v17, (Value.func (.func 30) (Array.mk []) (Array.mk [(ptrTo b3)]))] h fun v18 h =>
 binB False Try.prog .lss 3 true false v18 (Value.int .i64 (0)) h fun v19 h =>
 CondW v19 (
 κ (Value.tuple (Array.mk [(Value.int .i64 (0)), (Value.bool false)])) h) (
 rs_12_0 v12 v18 h κ)

noncomputable def rs_12_2 (a0 : Value) (b1 : Nat) (b3 : Nat) (h : Heap) (κ : Value → Heap → Prop) : Prop :=
 RdK (some a0) h fun v5 h =>
 RdK (nilB none v5 h fun v _ => some v) h fun v6 h =>
 RdK (fieldAddrB none 2 v6 h fun v _ => some v) h fun v7 h =>
 RdK (load1 none v7 h fun v _ => some v) h fun v8 h =>
 RdK (loadA none 2 (ptrTo b1) h fun v _ => some v) h fun v9 h =>
 RdK (lookupB none Try.prog 31 (Value.pointer none) true v8 v9 h fun v _ => some v) h fun v10 h =>
 RdK (some v10) h fun v11 h =>
 RdK (extractB none 0 v11 h fun v _ => some v) h fun v12 h =>
 RdK (extractB none 1 v11 h fun v _ => some v) h fun v13 h =>
 SameK ((reV (extractB none 1 v11 h fun v _ => some v) v13) && true) (unB False .not v13 h fun v14 h =>
 CondW v14 (
 κ (Value.tuple (Array.mk [(Value.int .i64 (0)), (Value.bool false)])) h) (
 rs_12_1 v12 b3 h κ))

/-- (*latchstring/bucket.Bucket).Find -/
theorem rs_12 (a0 a1 a2 : Value) (h : Heap) (κ : Value → Heap → Prop) : BodyW Try.prog 12 [a0, a1, a2] h κ = (
 cellsK False (Value.cells a1).toList 31 false fun o0 => newBlock False o0 h fun b1 h =>
 cellsK False (Value.cells a2).toList 3 false fun o2 => newBlock False o2 h fun b3 h =>
 binB False Try.prog .eql 24 true false a0 (Value.pointer none) h fun v4 h =>
 CondW v4 (
 κ (Value.tuple (Array.mk [(Value.int .i64 (0)), (Value.bool false)])) h) (
 rs_12_2 a0 b1 b3 h κ)) := by kernel_rfl

/-- (*latchstring/pool.Pool).Has -/
theorem rs_13 (a0 a1 : Value) (h : Heap) (κ : Value → Heap → Prop) : BodyW Try.prog 13 [a0, a1] h κ = (
 binB False Try.prog .neq 25 true false a0 (Value.pointer none) h fun v0 h =>
 GuardW (wantV v0 true) (fun K1 =>
 K1 a1 h) h fun v2 h =>
 GuardW (wantV v0 true) (fun K3 =>
 binB False Try.prog .geq 3 true false v2 (Value.int .i64 (0)) h K3) h fun v4 h =>
 pickB False v0 v4 (Value.bool false) h fun v5 h =>
 GuardW (wantV v5 true) (fun K6 =>
 K6 a1 h) h fun v7 h =>
 GuardW (wantV v5 true) (fun K8 =>
 K8 a0 h) h fun v9 h =>
 GuardW (wantV v5 true) (fun K10 =>
 nilB False v9 h K10) h fun v11 h =>
 GuardW (wantV v5 true) (fun K12 =>
 fieldAddrB False 1 v11 h K12) h fun v13 h =>
 GuardW (wantV v5 true) (fun K14 =>
 load1 False v13 h K14) h fun v15 h =>
 GuardW (wantV v5 true) (fun K16 =>
 lenSli False v15 h K16) h fun v17 h =>
 GuardW (wantV v5 true) (fun K18 =>
 binB False Try.prog .lss 3 false false v7 v17 h K18) h fun v19 h =>
 pickB False v5 v19 (Value.bool false) h fun v20 h =>
 GuardW (wantV v20 true) (fun K21 =>
 K21 a0 h) h fun v22 h =>
 GuardW (wantV v20 true) (fun K23 =>
 nilB False v22 h K23) h fun v24 h =>
 GuardW (wantV v20 true) (fun K25 =>
 fieldAddrB False 1 v24 h K25) h fun v26 h =>
 GuardW (wantV v20 true) (fun K27 =>
 load1 False v26 h K27) h fun v28 h =>
 GuardW (wantV v20 true) (fun K29 =>
 K29 a1 h) h fun v30 h =>
 GuardW (wantV v20 true) (fun K31 =>
 indexAddrS False 1 v28 v30 h K31) h fun v32 h =>
 GuardW (wantV v20 true) (fun K33 =>
 load1 False v32 h K33) h fun v34 h =>
 pickB False v20 v34 (Value.bool false) h fun v35 h =>
 κ v35 h) := by kernel_rfl

noncomputable def rs_14_0 (a0 : Value) (b1 : Nat) (N24 : List Value → Heap → Prop) (v23 : Value) (v26 : Value) (h : Heap) (κ : Value → Heap → Prop) : Prop :=
 RdK (some a0) h fun v27 h =>
 RdK (nilB none v27 h fun v _ => some v) h fun v28 h =>
 RdK (fieldAddrB none 2 v28 h fun v _ => some v) h fun v29 h =>
 RdK (load1 none v29 h fun v _ => some v) h fun v30 h =>
 RdK (lenMap none v30 h fun v _ => some v) h fun v31 h =>
 RdK (some a0) h fun v32 h =>
 RdK (nilB none v32 h fun v _ => some v) h fun v33 h =>
 RdK (fieldAddrB none 0 v33 h fun v _ => some v) h fun v34 h =>
 RdK (load1 none v34 h fun v _ => some v) h fun v35 h =>
 RdK (binB none Try.prog .geq 3 false false v31 v35 h fun v _ => some v) h fun v36 h =>
 CondW v36 (
 κ (Value.tuple (Array.mk [(Value.int .i64 (0)), (Value.bool false), (Value.int .i64 (8))])) h) (
 loadA False 2 (ptrTo b1) h fun v37 h =>
 fillB False [(0, 2)] [v37] [(Value.int .i64 (0)), (Value.int .i64 (0)), (Value.slice none 0 0), (Value.int .i64 (0))] fun cs38 =>
 cellsK False (Value.cells (Value.agg (Array.mk cs38))).toList 64 false fun o39 => newBlock False o39 h fun b40 h =>
 N24 [v23, v26, v27, v28, v29, v30, v31, v32, v33, v34, v35, v36, (Value.int .i64 (0)), (Value.bool false), (Value.int .i64 (0)), v37, (Value.agg (Array.mk cs38)), (ptrTo b40), (ptrTo b40)] h)

noncomputable def rs_14_1 (l25 : List Value) (v45 : Value) (a2 : Value) (a3 : Value) (a0 : Value) (h : Heap) (κ : Value → Heap → Prop) : Prop :=
 nilB False (slot l25 18) h fun v48 h =>
 loadA False 4 v48 h fun v49 h =>
 CallW Try.prog 33 [v49, v45, a2, a3] h fun v50 h =>
 extractB False 0 v50 h fun v51 h =>
 extractB False 1 v50 h fun v52 h =>
 extractB False 2 v50 h fun v53 h =>
 cellsK False [(Value.int .i64 (0)), (Value.int .i64 (0)), (Value.slice none 0 0), (Value.int .i64 (0))] 64 false fun o54 => newBlock False o54 h fun b55 h =>
 storeV False 4 (ptrTo b55) v51 h fun v56 h =>
 loadA False 4 (ptrTo b55) h fun v57 h =>
 CallW Try.prog 27 [a0, v57] h fun v58 h =>
 κ (Value.tuple (Array.mk [v45, v52, (Value.int .i64 (0))])) h

noncomputable def rs_14_2 (a0 : Value) (l25 : List Value) (a2 : Value) (a3 : Value) (h : Heap) (κ : Value → Heap → Prop) : Prop :=
 nilB False a0 h fun v41 h =>
 fieldAddrB False 1 v41 h fun v42 h =>
 load1 False v42 h fun v43 h =>
 CallW Try.prog 32 [v43] h fun v44 h =>
 extractB False 0 v44 h fun v45 h =>
 extractB False 1 v44 h fun v46 h =>
 binB False Try.prog .neq 41 true false v46 (Value.int .i64 (0)) h fun v47 h =>
 CondW v47 (
 κ (Value.tuple (Array.mk [(Value.int .i64 (0)), (Value.bool false), (Value.int .i64 (8))])) h) (
 rs_14_1 l25 v45 a2 a3 a0 h κ)

noncomputable def rs_14_3 (a0 : Value) (b1 : Nat) (a2 : Value) (a3 : Value) (h : Heap) (κ : Value → Heap → Prop) : Prop :=
 RdK (some a0) h fun v15 h =>
 RdK (nilB none v15 h fun v _ => some v) h fun v16 h =>
 RdK (fieldAddrB none 2 v16 h fun v _ => some v) h fun v17 h =>
 RdK (load1 none v17 h fun v _ => some v) h fun v18 h =>
 RdK (loadA none 2 (ptrTo b1) h fun v _ => some v) h fun v19 h =>
 RdK (lookupB none Try.prog 31 (Value.pointer none) true v18 v19 h fun v _ => some v) h fun v20 h =>
 RdK (some v20) h fun v21 h =>
 RdK (extractB none 0 v21 h fun v _ => some v) h fun v22 h =>
 RdK (extractB none 1 v21 h fun v _ => some v) h fun v23 h =>
 SameK ((reV (extractB none 1 v21 h fun v _ => some v) v23) && true) (JoinR (fun N24 =>
 unB False .not v23 h fun v26 h =>
 CondW v26 (
 rs_14_0 a0 b1 N24 v23 v26 h κ) (
 N24 [v23, v26, undef, undef, undef, undef, undef, undef, undef, undef, undef, undef, (Value.int .i64 (0)), (Value.bool false), (Value.int .i64 (0)), undef, undef, undef, v22] h)) fun l25 h =>
 rs_14_2 a0 l25 a2 a3 h κ)

noncomputable def rs_14_4 (b1 : Nat) (a0 : Value) (a2 : Value) (a3 : Value) (h : Heap) (κ : Value → Heap → Prop) : Prop :=
 loadA False 2 (ptrTo b1) h fun v11 h =>
 CallW Try.prog 12 [a0, v11, a2] h fun v12 h =>
 extractB False 0 v12 h fun v13 h =>
 extractB False 1 v12 h fun v14 h =>
 CondW v14 (
 κ (Value.tuple (Array.mk [(Value.int .i64 (0)), (Value.bool false), (Value.int .i64 (4))])) h) (
 rs_14_3 a0 b1 a2 a3 h κ)

noncomputable def rs_14_5 (a3 : Value) (b1 : Nat) (a0 : Value) (a2 : Value) (h : Heap) (κ : Value → Heap → Prop) : Prop :=
 binB False Try.prog .eql 32 true false a3 (Value.int .i64 (0)) h fun v3 h =>
 GuardW (wantV v3 false) (fun K4 =>
 K4 a3 h) h fun v5 h =>
 GuardW (wantV v3 false) (fun K6 =>
 CallW Try.prog 31 [v5] h K6) h fun v7 h =>
 GuardW (wantV v3 false) (fun K8 =>
 unB False .not v7 h K8) h fun v9 h =>
 pickB False v3 (Value.bool true) v9 h fun v10 h =>
 CondW v10 (
 κ (Value.tuple (Array.mk [(Value.int .i64 (0)), (Value.bool false), (Value.int .i64 (2))])) h) (
 rs_14_4 b1 a0 a2 a3 h κ)

/-- (*latchstring/bucket.Bucket).Ask -/
theorem rs_14 (a0 a1 a2 a3 : Value) (h : Heap) (κ : Value → Heap → Prop) : BodyW Try.prog 14 [a0, a1, a2, a3] h κ = (
 cellsK False (Value.cells a1).toList 31 false fun o0 => newBlock False o0 h fun b1 h =>
 binB False Try.prog .eql 24 true false a0 (Value.pointer none) h fun v2 h =>
 CondW v2 (
 κ (Value.tuple (Array.mk [(Value.int .i64 (0)), (Value.bool false), (Value.int .i64 (1))])) h) (
 rs_14_5 a3 b1 a0 a2 h κ)) := by kernel_rfl

noncomputable def rs_16_0 (l13 : List Value) (a0 : Value) (b11 : Nat) (N12 : List Value → Heap → Prop) (h : Heap) (κ : Value → Heap → Prop) : Prop :=
 binB False Try.prog .lss 3 false false (slot l13 11) a0 h fun v14 h =>
 CondW v14 (
 nilB False (ptrTo b11) h fun v15 h =>
 fieldAddrB False 0 v15 h fun v16 h =>
 CallW Try.prog 34 [(Value.iface 93 v16), (Value.iface 3 (slot l13 11))] h fun v17 h =>
 binB False Try.prog .add 3 true false (slot l13 11) (Value.int .i64 (1)) h fun v18 h =>
 N12 [v14, (slot l13 11), (slot l13 11), (ptrTo b11), v15, v16, (Value.iface 93 v16), (slot l13 11), (Value.iface 3 (slot l13 11)), v17, v18, v18] h) (
 κ (Value.tuple (Array.mk [(ptrTo b11), (Value.int .i64 (0))])) h)

/-- latchstring/pool.New -/
theorem rs_16 (a0 : Value) (h : Heap) (κ : Value → Heap → Prop) : BodyW Try.prog 16 [a0] h κ = (
 binB False Try.prog .lss 3 true false a0 (Value.int .i64 (0)) h fun v0 h =>
 GuardW (wantV v0 false) (fun K1 =>
 K1 a0 h) h fun v2 h =>
 GuardW (wantV v0 false) (fun K3 =>
 binB False Try.prog .gtr 3 true false v2 (Value.int .i64 (128)) h K3) h fun v4 h =>
 pickB False v0 (Value.bool true) v4 h fun v5 h =>
 CondW v5 (
 κ (Value.tuple (Array.mk [(Value.pointer none), (Value.int .i64 (2))])) h) (
 mkSl False a0 a0 [(Value.bool false)] 4 h fun v8 h =>
 fillB False [(1, 1)] [v8] [(Value.slice none 0 0), (Value.slice none 0 0)] fun cs9 =>
 cellsK False (Value.cells (Value.agg (Array.mk cs9))).toList 86 false fun o10 => newBlock False o10 h fun b11 h =>
 LoopR [undef, undef, undef, undef, undef, undef, undef, undef, undef, undef, undef, (Value.int .i64 (0))] h fun l13 h N12 =>
 rs_16_0 l13 a0 b11 N12 h κ)) := by kernel_rfl

/-- latchstring/bucket.New -/
theorem rs_17 (a0 a1 : Value) (h : Heap) (κ : Value → Heap → Prop) : BodyW Try.prog 17 [a0, a1] h κ = (
 binB False Try.prog .lss 3 true false a0 (Value.int .i64 (1)) h fun v0 h =>
 GuardW (wantV v0 false) (fun K1 =>
 K1 a0 h) h fun v2 h =>
 GuardW (wantV v0 false) (fun K3 =>
 binB False Try.prog .gtr 3 true false v2 (Value.int .i64 (64)) h K3) h fun v4 h =>
 pickB False v0 (Value.bool true) v4 h fun v5 h =>
 GuardW (wantV v5 false) (fun K6 =>
 K6 a1 h) h fun v7 h =>
 GuardW (wantV v5 false) (fun K8 =>
 binB False Try.prog .eql 25 true false v7 (Value.pointer none) h K8) h fun v9 h =>
 pickB False v5 (Value.bool true) v9 h fun v10 h =>
 CondW v10 (
 κ (Value.tuple (Array.mk [(Value.pointer none), (Value.int .i64 (2))])) h) (
 newBlock False (.map [] 0) h fun b12 h =>
 fillB False [(0, 1), (1, 1), (2, 1)] [a0, a1, (mapTo b12)] [(Value.int .i64 (0)), (Value.pointer none), (Value.map none)] fun cs13 =>
 cellsK False (Value.cells (Value.agg (Array.mk cs13))).toList 68 false fun o14 => newBlock False o14 h fun b15 h =>
 κ (Value.tuple (Array.mk [(ptrTo b15), (Value.int .i64 (0))])) h)) := by kernel_rfl

noncomputable def rs_18_0 (l3 : List Value) (a1 : Value) (a2 : Value) (a0 : Value) (h : Heap) (κ : Value → Heap → Prop) : Prop :=
 nilB False (slot l3 4) h fun v8 h =>
 loadA False 4 v8 h fun v9 h =>
 CallW Try.prog 35 [v9, a1, a2] h fun v10 h =>
 extractB False 0 v10 h fun v11 h =>
 extractB False 1 v10 h fun v12 h =>
 extractB False 2 v10 h fun v13 h =>
 cellsK False [(Value.int .i64 (0)), (Value.int .i64 (0)), (Value.slice none 0 0), (Value.int .i64 (0))] 64 false fun o14 => newBlock False o14 h fun b15 h =>
 storeV False 4 (ptrTo b15) v11 h fun v16 h =>
 binB False Try.prog .neq 41 true false v13 (Value.int .i64 (0)) h fun v17 h =>
 CondW v17 (
 κ (Value.tuple (Array.mk [(Value.bool false), v13])) h) (
 loadA False 4 (ptrTo b15) h fun v18 h =>
 CallW Try.prog 27 [a0, v18] h fun v19 h =>
 κ (Value.tuple (Array.mk [v12, (Value.int .i64 (0))])) h)

noncomputable def rs_18_1 (a0 : Value) (a1 : Value) (a2 : Value) (h : Heap) (κ : Value → Heap → Prop) : Prop :=
 CallW Try.prog 23 [a0, a1] h fun v1 h =>
 JoinR (fun N2 =>
 binB False Try.prog .eql 65 true false v1 (Value.pointer none) h fun v4 h =>
 CondW v4 (
 fillB False [] [] [(Value.int .i64 (0)), (Value.int .i64 (0)), (Value.slice none 0 0), (Value.int .i64 (0))] fun cs5 =>
 cellsK False (Value.cells (Value.agg (Array.mk cs5))).toList 64 false fun o6 => newBlock False o6 h fun b7 h =>
 N2 [v1, v4, (Value.agg (Array.mk cs5)), (ptrTo b7), (ptrTo b7)] h) (
 N2 [v1, v4, undef, undef, v1] h)) fun l3 h =>
 rs_18_0 l3 a1 a2 a0 h κ

/-- (*latchstring/bucket.Bucket).Upgrade -/
theorem rs_18 (a0 a1 a2 : Value) (h : Heap) (κ : Value → Heap → Prop) : BodyW Try.prog 18 [a0, a1, a2] h κ = (
 binB False Try.prog .eql 24 true false a0 (Value.pointer none) h fun v0 h =>
 CondW v0 (
 κ (Value.tuple (Array.mk [(Value.bool false), (Value.int .i64 (1))])) h) (
 rs_18_1 a0 a1 a2 h κ)) := by kernel_rfl

noncomputable def rs_19_0 (v0 : Value) (a1 : Value) (a0 : Value) (h : Heap) (κ : Value → Heap → Prop) : Prop :=
 nilB False v0 h fun v3 h =>
 loadA False 4 v3 h fun v4 h =>
 CallW Try.prog 36 [v4, a1] h fun v5 h =>
 extractB False 0 v5 h fun v6 h =>
 extractB False 1 v5 h fun v7 h =>
 cellsK False [(Value.int .i64 (0)), (Value.int .i64 (0)), (Value.slice none 0 0), (Value.int .i64 (0))] 64 false fun o8 => newBlock False o8 h fun b9 h =>
 storeV False 4 (ptrTo b9) v6 h fun v10 h =>
 nilB False a0 h fun v11 h =>
 fieldAddrB False 1 v11 h fun v12 h =>
 load1 False v12 h fun v13 h =>
 CallW Try.prog 37 [v13, a1] h fun v14 h =>
 loadA False 4 (ptrTo b9) h fun v15 h =>
 CallW Try.prog 27 [a0, v15] h fun v16 h =>
 κ (Value.tuple (Array.mk [v16, (Value.int .i64 (0))])) h

/-- (*latchstring/bucket.Bucket).Leave -/
theorem rs_19 (a0 a1 : Value) (h : Heap) (κ : Value → Heap → Prop) : BodyW Try.prog 19 [a0, a1] h κ = (
 CallW Try.prog 23 [a0, a1] h fun v0 h =>
 binB False Try.prog .eql 65 true false v0 (Value.pointer none) h fun v1 h =>
 CondW v1 (
 CallW Try.prog 25 [a0] h fun v2 h =>
 κ (Value.tuple (Array.mk [(Value.slice none 0 0), v2])) h) (
 rs_19_0 v0 a1 a0 h κ)) := by kernel_rfl

noncomputable def rs_20_0 (b9 : Nat) (a1 : Value) (a0 : Value) (N12 : List Value → Heap → Prop) (h : Heap) : Prop :=
 loadA False 4 (ptrTo b9) h fun v14 h =>
 CallW Try.prog 24 [v14, a1] h fun v15 h =>
 extractB False 0 v15 h fun v16 h =>
 extractB False 1 v15 h fun v17 h =>
 cellsK False [(Value.int .i64 (0)), (Value.int .i64 (0)), (Value.int .i64 (0)), (Value.int .i64 (0)), (Value.int .i64 (0))] 38 false fun o18 => newBlock False o18 h fun b19 h =>
 storeV False 5 (ptrTo b19) v16 h fun v20 h =>
 unB False .not v17 h fun v21 h =>
 CondW v21 (
 nilB False a0 h fun v22 h =>
 fieldAddrB False 1 v22 h fun v23 h =>
 load1 False v23 h fun v24 h =>
 CallW Try.prog 37 [v24, a1] h fun v25 h =>
 N12 [v14, a1, v15, v15, v16, v17, (ptrTo b19), v17, v17, v21, a0, v22, v23, v24, a1, v25] h) (
 N12 [v14, a1, v15, v15, v16, v17, (ptrTo b19), v17, v17, v21, undef, undef, undef, undef, undef, undef] h)

noncomputable def rs_20_1 (v0 : Value) (a1 : Value) (a0 : Value) (h : Heap) (κ : Value → Heap → Prop) : Prop :=
 nilB False v0 h fun v3 h =>
 loadA False 4 v3 h fun v4 h =>
 CallW Try.prog 38 [v4, a1] h fun v5 h =>
 extractB False 0 v5 h fun v6 h =>
 extractB False 1 v5 h fun v7 h =>
 cellsK False [(Value.int .i64 (0)), (Value.int .i64 (0)), (Value.slice none 0 0), (Value.int .i64 (0))] 64 false fun o8 => newBlock False o8 h fun b9 h =>
 storeV False 4 (ptrTo b9) v6 h fun v10 h =>
 binB False Try.prog .neq 41 true false v7 (Value.int .i64 (0)) h fun v11 h =>
 CondW v11 (
 κ (Value.tuple (Array.mk [(Value.slice none 0 0), v7])) h) (
 JoinR (fun N12 =>
 rs_20_0 b9 a1 a0 N12 h) fun l13 h =>
 loadA False 4 (ptrTo b9) h fun v26 h =>
 CallW Try.prog 27 [a0, v26] h fun v27 h =>
 κ (Value.tuple (Array.mk [v27, (Value.int .i64 (0))])) h)

/-- (*latchstring/bucket.Bucket).Abandon -/
theorem rs_20 (a0 a1 : Value) (h : Heap) (κ : Value → Heap → Prop) : BodyW Try.prog 20 [a0, a1] h κ = (
 CallW Try.prog 23 [a0, a1] h fun v0 h =>
 binB False Try.prog .eql 65 true false v0 (Value.pointer none) h fun v1 h =>
 CondW v1 (
 CallW Try.prog 25 [a0] h fun v2 h =>
 κ (Value.tuple (Array.mk [(Value.slice none 0 0), v2])) h) (
 rs_20_1 v0 a1 a0 h κ)) := by kernel_rfl

/-- (*latchstring/bucket.Bucket).names -/
theorem rs_21 (a0 : Value) (h : Heap) (κ : Value → Heap → Prop) : BodyW Try.prog 21 [a0] h κ = (
 nilB False a0 h fun v0 h =>
 fieldAddrB False 2 v0 h fun v1 h =>
 load1 False v1 h fun v2 h =>
 CallW Try.prog 40 [v2] h fun v3 h =>
 CallW Try.prog 39 [v3, (Value.func (.func 41) (Array.mk []) (Array.mk []))] h fun v4 h =>
 κ v4 h) := by kernel_rfl

noncomputable def rs_23_0 (v4 : Value) (a1 : Value) (N5 : List Value → Heap → Prop) (v7 : Value) (v8 : Value) (l6 : List Value) (h : Heap) (κ : Value → Heap → Prop) : Prop :=
 entryB False v4 h fun v9 h =>
 extractB False 1 v9 h fun v10 h =>
 nilB False v10 h fun v11 h =>
 loadA False 4 v11 h fun v12 h =>
 CallW Try.prog 24 [v12, a1] h fun v13 h =>
 extractB False 0 v13 h fun v14 h =>
 extractB False 1 v13 h fun v15 h =>
 cellsK False [(Value.int .i64 (0)), (Value.int .i64 (0)), (Value.int .i64 (0)), (Value.int .i64 (0)), (Value.int .i64 (0))] 38 false fun o16 => newBlock False o16 h fun b17 h =>
 storeV False 5 (ptrTo b17) v14 h fun v18 h =>
 CondW v15 (
 κ v10 h) (
 N5 [v7, v8, v9, v10, v10, v10, v11, v12, a1, v13, v13, v14, v15, (ptrTo b17), v15, v15, (slot l6 16), (slot l6 17)] h)

noncomputable def rs_23_1 (a0 : Value) (a1 : Value) (h : Heap) (κ : Value → Heap → Prop) : Prop :=
 nilB False a0 h fun v1 h =>
 fieldAddrB False 2 v1 h fun v2 h =>
 load1 False v2 h fun v3 h =>
 rangeB False v3 h fun v4 h =>
 LoopR [undef, undef, undef, undef, undef, undef, undef, undef, undef, undef, undef, undef, undef, undef, undef, undef, undef, (Value.pointer none)] h fun l6 h N5 =>
 nextB False And v4 h fun v7 h =>
 extractB False 0 v7 h fun v8 h =>
 CondW v8 (
 rs_23_0 v4 a1 N5 v7 v8 l6 h κ) (
 κ (Value.pointer none) h)

/-- (*latchstring/bucket.Bucket).of -/
theorem rs_23 (a0 a1 : Value) (h : Heap) (κ : Value → Heap → Prop) : BodyW Try.prog 23 [a0, a1] h κ = (
 binB False Try.prog .eql 24 true false a0 (Value.pointer none) h fun v0 h =>
 CondW v0 (
 κ (Value.pointer none) h) (
 rs_23_1 a0 a1 h κ)) := by kernel_rfl

/-- latchstring/queue.Find -/
theorem rs_24 (a0 a1 : Value) (h : Heap) (κ : Value → Heap → Prop) : BodyW Try.prog 24 [a0, a1] h κ = (
 cellsK False (Value.cells a0).toList 64 false fun o0 => newBlock False o0 h fun b1 h =>
 cellsK False [(Value.int .i64 (0)), (Value.int .i64 (0)), (Value.int .i64 (0)), (Value.int .i64 (0)), (Value.int .i64 (0))] 38 false fun o2 => newBlock False o2 h fun b3 h =>
 loadA False 4 (ptrTo b1) h fun v4 h =>
 fillB False [(0, 4)] [v4] [(Value.int .i64 (0)), (Value.int .i64 (0)), (Value.slice none 0 0), (Value.int .i64 (0))] fun cs5 =>
 CallW Try.prog 42 [(Value.agg (Array.mk cs5)), a1] h fun v6 h =>
 binB False Try.prog .lss 3 true false v6 (Value.int .i64 (0)) h fun v7 h =>
 CondW v7 (
 fillB False [] [] [(Value.int .i64 (0)), (Value.int .i64 (0)), (Value.int .i64 (0)), (Value.int .i64 (0)), (Value.int .i64 (0))] fun cs8 =>
 storeV False 5 (ptrTo b3) (Value.agg (Array.mk cs8)) h fun v9 h =>
 loadA False 5 (ptrTo b3) h fun v10 _ => κ (Value.tuple (Array.mk [v10, (Value.bool false)])) h) (
 fieldAddrB False 2 (ptrTo b1) h fun v11 h =>
 load1 False v11 h fun v12 h =>
 indexAddrS False 5 v12 v6 h fun v13 h =>
 loadA False 5 v13 h fun v14 h =>
 storeV False 5 (ptrTo b3) v14 h fun v15 h =>
 loadA False 5 (ptrTo b3) h fun v16 _ => κ (Value.tuple (Array.mk [v16, (Value.bool true)])) h)) := by kernel_rfl

/-- (*latchstring/bucket.Bucket).none -/
theorem rs_25 (a0 : Value) (h : Heap) (κ : Value → Heap → Prop) : BodyW Try.prog 25 [a0] h κ = (
 binB False Try.prog .eql 24 true false a0 (Value.pointer none) h fun v0 h =>
 CondW v0 (
 κ (Value.int .i64 (1)) h) (
 κ (Value.int .i64 (5)) h)) := by kernel_rfl

noncomputable def rs_26_0 (b11 : Nat) (b5 : Nat) (v15 : Value) (b7 : Nat) (h : Heap) (κ : Value → Heap → Prop) : Prop :=
 fieldAddrB False 0 (ptrTo b11) h fun v36 h =>
 fieldAddrB False 2 v36 h fun v37 h =>
 load1 False v37 h fun v38 h =>
 load1 False (ptrTo b5) h fun v39 h =>
 indexAddrS False 5 v38 v15 h fun v40 h =>
 fieldAddrB False 1 v40 h fun v41 h =>
 storeV False 1 v41 v39 h fun v42 h =>
 fieldAddrB False 0 (ptrTo b11) h fun v43 h =>
 loadA False 4 v43 h fun v44 h =>
 storeV False 4 (ptrTo b7) v44 h fun v45 h =>
 loadA False 4 (ptrTo b7) h fun v46 _ => κ (Value.tuple (Array.mk [v46, (Value.int .i64 (0))])) h

noncomputable def rs_26_1 (b11 : Nat) (v15 : Value) (b7 : Nat) (b5 : Nat) (h : Heap) (κ : Value → Heap → Prop) : Prop :=
 fieldAddrB False 0 (ptrTo b11) h fun v27 h =>
 fieldAddrB False 2 v27 h fun v28 h =>
 load1 False v28 h fun v29 h =>
 indexAddrS False 5 v29 v15 h fun v30 h =>
 loadA False 5 v30 h fun v31 h =>
 CallW Try.prog 46 [v31] h fun v32 h =>
 CondW v32 (
 fillB False [] [] [(Value.int .i64 (0)), (Value.int .i64 (0)), (Value.slice none 0 0), (Value.int .i64 (0))] fun cs33 =>
 storeV False 4 (ptrTo b7) (Value.agg (Array.mk cs33)) h fun v34 h =>
 loadA False 4 (ptrTo b7) h fun v35 _ => κ (Value.tuple (Array.mk [v35, (Value.int .i64 (7))])) h) (
 rs_26_0 b11 b5 v15 b7 h κ)

noncomputable def rs_26_2 (b11 : Nat) (b3 : Nat) (b5 : Nat) (b7 : Nat) (v15 : Value) (h : Heap) (κ : Value → Heap → Prop) : Prop :=
 fieldAddrB False 0 (ptrTo b11) h fun v20 h =>
 fieldAddrB False 2 v20 h fun v21 h =>
 load1 False v21 h fun v22 h =>
 CallW Try.prog 44 [v22, (Value.func (.func 45) (Array.mk []) (Array.mk [(ptrTo b3), (ptrTo b5)]))] h fun v23 h =>
 CondW v23 (
 fillB False [] [] [(Value.int .i64 (0)), (Value.int .i64 (0)), (Value.slice none 0 0), (Value.int .i64 (0))] fun cs24 =>
 storeV False 4 (ptrTo b7) (Value.agg (Array.mk cs24)) h fun v25 h =>
 loadA False 4 (ptrTo b7) h fun v26 _ => κ (Value.tuple (Array.mk [v26, (Value.int .i64 (4))])) h) (
 rs_26_1 b11 v15 b7 b5 h κ)

/-- latchstring/queue.Hand -/
theorem rs_26 (a0 a1 a2 : Value) (h : Heap) (κ : Value → Heap → Prop) : BodyW Try.prog 26 [a0, a1, a2] h κ = (
 cellsK False (Value.cells a0).toList 64 false fun o0 => newBlock False o0 h fun b1 h =>
 cellsK False (Value.cells a1).toList 3 false fun o2 => newBlock False o2 h fun b3 h =>
 cellsK False (Value.cells a2).toList 3 false fun o4 => newBlock False o4 h fun b5 h =>
 cellsK False [(Value.int .i64 (0)), (Value.int .i64 (0)), (Value.slice none 0 0), (Value.int .i64 (0))] 64 false fun o6 => newBlock False o6 h fun b7 h =>
 loadA False 4 (ptrTo b1) h fun v8 h =>
 CallW Try.prog 43 [v8] h fun v9 h =>
 cellsK False [(Value.int .i64 (0)), (Value.int .i64 (0)), (Value.slice none 0 0), (Value.int .i64 (0))] 103 false fun o10 => newBlock False o10 h fun b11 h =>
 storeV False 4 (ptrTo b11) v9 h fun v12 h =>
 loadA False 4 (ptrTo b11) h fun v13 h =>
 load1 False (ptrTo b3) h fun v14 h =>
 CallW Try.prog 42 [v13, v14] h fun v15 h =>
 binB False Try.prog .lss 3 true false v15 (Value.int .i64 (0)) h fun v16 h =>
 CondW v16 (
 fillB False [] [] [(Value.int .i64 (0)), (Value.int .i64 (0)), (Value.slice none 0 0), (Value.int .i64 (0))] fun cs17 =>
 storeV False 4 (ptrTo b7) (Value.agg (Array.mk cs17)) h fun v18 h =>
 loadA False 4 (ptrTo b7) h fun v19 _ => κ (Value.tuple (Array.mk [v19, (Value.int .i64 (5))])) h) (
 rs_26_2 b11 b3 b5 b7 v15 h κ)) := by kernel_rfl

noncomputable def rs_27_0 (a0 : Value) (b1 : Nat) (N7 : List Value → Heap → Prop) (v9 : Value) (v10 : Value) (v11 : Value) (v12 : Value) (h : Heap) : Prop :=
 RdK (some a0) h fun v13 h =>
 RdK (nilB none v13 h fun v _ => some v) h fun v14 h =>
 RdK (fieldAddrB none 2 v14 h fun v _ => some v) h fun v15 h =>
 RdK (load1 none v15 h fun v _ => some v) h fun v16 h =>
 RdK (fieldAddrB none 0 (ptrTo b1) h fun v _ => some v) h fun v17 h =>
 RdK (loadA none 2 v17 h fun v _ => some v) h fun v18 h =>
 deleteB False Try.prog 31 v16 v18 h fun v19 h =>
 N7 [v9, v10, v11, v12, v13, v14, v15, v16, v17, v18, undef, undef, undef, undef, undef, undef] h

noncomputable def rs_27_1 (a0 : Value) (b1 : Nat) (N7 : List Value → Heap → Prop) (v9 : Value) (v10 : Value) (v11 : Value) (v12 : Value) (h : Heap) : Prop :=
 RdK (some a0) h fun v20 h =>
 RdK (nilB none v20 h fun v _ => some v) h fun v21 h =>
 RdK (fieldAddrB none 2 v21 h fun v _ => some v) h fun v22 h =>
 RdK (load1 none v22 h fun v _ => some v) h fun v23 h =>
 RdK (fieldAddrB none 0 (ptrTo b1) h fun v _ => some v) h fun v24 h =>
 RdK (loadA none 2 v24 h fun v _ => some v) h fun v25 h =>
 mapUpdateB False Try.prog 31 v23 v25 (ptrTo b1) h fun v26 h =>
 N7 [v9, v10, v11, v12, undef, undef, undef, undef, undef, undef, v20, v21, v22, v23, v24, v25] h

noncomputable def rs_27_2 (b1 : Nat) (a0 : Value) (N7 : List Value → Heap → Prop) (h : Heap) : Prop :=
 fieldAddrB False 2 (ptrTo b1) h fun v9 h =>
 load1 False v9 h fun v10 h =>
 lenSli False v10 h fun v11 h =>
 binB False Try.prog .eql 3 true false v11 (Value.int .i64 (0)) h fun v12 h =>
 CondW v12 (
 rs_27_0 a0 b1 N7 v9 v10 v11 v12 h) (
 rs_27_1 a0 b1 N7 v9 v10 v11 v12 h)

/-- (*latchstring/bucket.Bucket).settle -/
theorem rs_27 (a0 a1 : Value) (h : Heap) (κ : Value → Heap → Prop) : BodyW Try.prog 27 [a0, a1] h κ = (
 cellsK False (Value.cells a1).toList 64 false fun o0 => newBlock False o0 h fun b1 h =>
 loadA False 4 (ptrTo b1) h fun v2 h =>
 CallW Try.prog 47 [v2] h fun v3 h =>
 extractB False 0 v3 h fun v4 h =>
 extractB False 1 v3 h fun v5 h =>
 storeV False 4 (ptrTo b1) v4 h fun v6 h =>
 JoinR (fun N7 =>
 rs_27_2 b1 a0 N7 h) fun l8 h =>
 κ v5 h) := by kernel_rfl

noncomputable def rs_28_0 (a0 : Value) (l4 : List Value) (a1 : Value) (N3 : List Value → Heap → Prop) (v5 : Value) (v6 : Value) (h : Heap) (κ : Value → Heap → Prop) : Prop :=
 RdK (some a0) h fun v7 h =>
 RdK (some (slot l4 16)) h fun v8 h =>
 RdK (indexAddrS none 5 v7 v8 h fun v _ => some v) h fun v9 h =>
 RdK (loadA none 5 v9 h fun v _ => some v) h fun v10 h =>
 RdK (some a1) h fun v11 h =>
 RdK (some (slot l4 16)) h fun v12 h =>
 RdK (indexAddrS none 5 v11 v12 h fun v _ => some v) h fun v13 h =>
 RdK (loadA none 5 v13 h fun v _ => some v) h fun v14 h =>
 RdK (binB none Try.prog .neq 38 false false v10 v14 h fun v _ => some v) h fun v15 h =>
 CondW v15 (
 κ (Value.bool false) h) (
 binB False Try.prog .add 3 true false (slot l4 16) (Value.int .i64 (1)) h fun v16 h =>
 N3 [(slot l4 16), a0, v5, v6, v7, v8, v9, v10, v11, v12, v13, v14, v15, (slot l4 13), (slot l4 16), v16, v16] h)

/-- latchstring/latchstringkit.Same[latchstring/api.Request] -/
theorem rs_28 (a0 a1 : Value) (h : Heap) (κ : Value → Heap → Prop) : BodyW Try.prog 28 [a0, a1] h κ = (
 lenSli False a0 h fun v0 h =>
 lenSli False a1 h fun v1 h =>
 binB False Try.prog .neq 3 false false v0 v1 h fun v2 h =>
 CondW v2 (
 κ (Value.bool false) h) (
 LoopR [undef, undef, undef, undef, undef, undef, undef, undef, undef, undef, undef, undef, undef, (Value.bool false), undef, undef, (Value.int .i64 (0))] h fun l4 h N3 =>
 lenSli False a0 h fun v5 h =>
 binB False Try.prog .lss 3 false false (slot l4 16) v5 h fun v6 h =>
 CondW v6 (
 rs_28_0 a0 l4 a1 N3 v5 v6 h κ) (
 κ (Value.bool true) h))) := by kernel_rfl

/-- (*latchstring/bucket.Bucket).Find$1 -/
theorem rs_30 (a0 a1 : Value) (h : Heap) (κ : Value → Heap → Prop) : BodyW Try.prog 30 [a0, a1] h κ = (
 cellsK False (Value.cells a0).toList 38 false fun o0 => newBlock False o0 h fun b1 h =>
 fieldAddrB False 1 (ptrTo b1) h fun v2 h =>
 load1 False v2 h fun v3 h =>
 load1 False a1 h fun v4 h =>
 binB False Try.prog .eql 3 false false v3 v4 h fun v5 h =>
 κ v5 h) := by kernel_rfl

/-- latchstring/mode.Known -/
theorem rs_31 (a0 : Value) (h : Heap) (κ : Value → Heap → Prop) : BodyW Try.prog 31 [a0] h κ = (
 binB False Try.prog .geq 32 true false a0 (Value.int .i64 (0)) h fun v0 h =>
 GuardW (wantV v0 true) (fun K1 =>
 K1 a0 h) h fun v2 h =>
 GuardW (wantV v0 true) (fun K3 =>
 binB False Try.prog .leq 32 true false v2 (Value.int .i64 (6)) h K3) h fun v4 h =>
 pickB False v0 v4 (Value.bool false) h fun v5 h =>
 κ v5 h) := by kernel_rfl

noncomputable def rs_32_0 (a0 : Value) (h : Heap) (κ : Value → Heap → Prop) : Prop :=
 nilB False a0 h fun v7 h =>
 fieldAddrB False 0 v7 h fun v8 h =>
 CallW Try.prog 49 [(Value.iface 93 v8)] h fun v9 h =>
 typeAssertB False 3 (Value.int .i64 (0)) true v9 h fun v10 h =>
 extractB False 0 v10 h fun v11 h =>
 extractB False 1 v10 h fun v12 h =>
 nilB False a0 h fun v13 h =>
 fieldAddrB False 1 v13 h fun v14 h =>
 load1 False v14 h fun v15 h =>
 indexAddrS False 1 v15 v11 h fun v16 h =>
 storeV False 1 v16 (Value.bool true) h fun v17 h =>
 κ (Value.tuple (Array.mk [v11, (Value.int .i64 (0))])) h

noncomputable def rs_32_1 (a0 : Value) (h : Heap) (κ : Value → Heap → Prop) : Prop :=
 nilB False a0 h fun v1 h =>
 fieldAddrB False 0 v1 h fun v2 h =>
 fieldAddrB False 0 v2 h fun v3 h =>
 load1 False v3 h fun v4 h =>
 CallW Try.prog 48 [v4] h fun v5 h =>
 binB False Try.prog .eql 3 true false v5 (Value.int .i64 (0)) h fun v6 h =>
 CondW v6 (
 κ (Value.tuple (Array.mk [(Value.int .i64 (0)), (Value.int .i64 (8))])) h) (
 rs_32_0 a0 h κ)

/-- (*latchstring/pool.Pool).Take -/
theorem rs_32 (a0 : Value) (h : Heap) (κ : Value → Heap → Prop) : BodyW Try.prog 32 [a0] h κ = (
 binB False Try.prog .eql 25 true false a0 (Value.pointer none) h fun v0 h =>
 CondW v0 (
 κ (Value.tuple (Array.mk [(Value.int .i64 (0)), (Value.int .i64 (1))])) h) (
 rs_32_1 a0 h κ)) := by kernel_rfl

noncomputable def rs_33_0 (b29 : Nat) (b35 : Nat) (N47 : List Value → Heap → Prop) (v46 : Value) (h : Heap) : Prop :=
 fieldAddrB False 0 (ptrTo b29) h fun v51 h =>
 fieldAddrB False 3 v51 h fun v52 h =>
 load1 False v52 h fun v53 h =>
 binB False Try.prog .add 3 true false v53 (Value.int .i64 (1)) h fun v54 h =>
 fieldAddrB False 0 (ptrTo b29) h fun v55 h =>
 fieldAddrB False 3 v55 h fun v56 h =>
 storeV False 1 v56 v54 h fun v57 h =>
 fieldAddrB False 0 (ptrTo b29) h fun v58 h =>
 fieldAddrB False 3 v58 h fun v59 h =>
 load1 False v59 h fun v60 h =>
 fieldAddrB False 4 (ptrTo b35) h fun v61 h =>
 storeV False 1 v61 v60 h fun v62 h =>
 N47 [v46, undef, undef, v51, v52, v53, v54, v55, v56, v58, v59, v60, v61] h

noncomputable def rs_33_1 (b29 : Nat) (b35 : Nat) (b7 : Nat) (v46 : Value) (h : Heap) (κ : Value → Heap → Prop) : Prop :=
 fieldAddrB False 0 (ptrTo b29) h fun v63 h =>
 fieldAddrB False 2 v63 h fun v64 h =>
 load1 False v64 h fun v65 h =>
 loadA False 5 (ptrTo b35) h fun v66 h =>
 fillB False [(0, 5)] [v66] (repeatL [(Value.int .i64 (0)), (Value.int .i64 (0)), (Value.int .i64 (0)), (Value.int .i64 (0)), (Value.int .i64 (0))] 1) fun cs69 => cellsK False cs69 38 false fun o67 => newBlock False o67 h fun b68 h =>
 appendB False 38 5 [(Value.int .i64 (0)), (Value.int .i64 (0)), (Value.int .i64 (0)), (Value.int .i64 (0)), (Value.int .i64 (0))] false v65 (sliceTo 1 1 b68) h fun v70 h =>
 fieldAddrB False 0 (ptrTo b29) h fun v71 h =>
 fieldAddrB False 2 v71 h fun v72 h =>
 storeV False 1 v72 v70 h fun v73 h =>
 fieldAddrB False 0 (ptrTo b29) h fun v74 h =>
 loadA False 4 v74 h fun v75 h =>
 storeV False 4 (ptrTo b7) v75 h fun v76 h =>
 loadA False 4 (ptrTo b7) h fun v77 _ => κ (Value.tuple (Array.mk [v77, v46, (Value.int .i64 (0))])) h

noncomputable def rs_33_2 (b1 : Nat) (b3 : Nat) (b5 : Nat) (a3 : Value) (b7 : Nat) (h : Heap) (κ : Value → Heap → Prop) : Prop :=
 loadA False 4 (ptrTo b1) h fun v26 h =>
 CallW Try.prog 43 [v26] h fun v27 h =>
 cellsK False [(Value.int .i64 (0)), (Value.int .i64 (0)), (Value.slice none 0 0), (Value.int .i64 (0))] 103 false fun o28 => newBlock False o28 h fun b29 h =>
 storeV False 4 (ptrTo b29) v27 h fun v30 h =>
 load1 False (ptrTo b3) h fun v31 h =>
 load1 False (ptrTo b5) h fun v32 h =>
 fillB False [(0, 1), (1, 1), (3, 1)] [v31, v32, a3] [(Value.int .i64 (0)), (Value.int .i64 (0)), (Value.int .i64 (0)), (Value.int .i64 (0)), (Value.int .i64 (0))] fun cs33 =>
 cellsK False [(Value.int .i64 (0)), (Value.int .i64 (0)), (Value.int .i64 (0)), (Value.int .i64 (0)), (Value.int .i64 (0))] 38 false fun o34 => newBlock False o34 h fun b35 h =>
 storeV False 5 (ptrTo b35) (Value.agg (Array.mk cs33)) h fun v36 h =>
 loadA False 4 (ptrTo b29) h fun v37 h =>
 CallW Try.prog 52 [v37] h fun v38 h =>
 binB False Try.prog .lss 3 true false v38 (Value.int .i64 (0)) h fun v39 h =>
 GuardW (wantV v39 true) (fun K40 =>
 loadA False 4 (ptrTo b29) h K40) h fun v41 h =>
 GuardW (wantV v39 true) (fun K42 =>
 loadA False 5 (ptrTo b35) h K42) h fun v43 h =>
 GuardW (wantV v39 true) (fun K44 =>
 CallW Try.prog 53 [v41, v43] h K44) h fun v45 h =>
 pickB False v39 v45 (Value.bool false) h fun v46 h =>
 JoinR (fun N47 =>
 CondW v46 (
 fieldAddrB False 2 (ptrTo b35) h fun v49 h =>
 storeV False 1 v49 a3 h fun v50 h =>
 N47 [v46, a3, v49, undef, undef, undef, undef, undef, undef, undef, undef, undef, undef] h) (
 rs_33_0 b29 b35 N47 v46 h)) fun l48 h =>
 rs_33_1 b29 b35 b7 v46 h κ

noncomputable def rs_33_3 (b1 : Nat) (b3 : Nat) (b5 : Nat) (b7 : Nat) (a3 : Value) (h : Heap) (κ : Value → Heap → Prop) : Prop :=
 fieldAddrB False 2 (ptrTo b1) h fun v20 h =>
 load1 False v20 h fun v21 h =>
 CallW Try.prog 44 [v21, (Value.func (.func 51) (Array.mk []) (Array.mk [(ptrTo b3), (ptrTo b5)]))] h fun v22 h =>
 CondW v22 (
 fillB False [] [] [(Value.int .i64 (0)), (Value.int .i64 (0)), (Value.slice none 0 0), (Value.int .i64 (0))] fun cs23 =>
 storeV False 4 (ptrTo b7) (Value.agg (Array.mk cs23)) h fun v24 h =>
 loadA False 4 (ptrTo b7) h fun v25 _ => κ (Value.tuple (Array.mk [v25, (Value.bool false), (Value.int .i64 (4))])) h) (
 rs_33_2 b1 b3 b5 a3 b7 h κ)

/-- latchstring/queue.Ask -/
theorem rs_33 (a0 a1 a2 a3 : Value) (h : Heap) (κ : Value → Heap → Prop) : BodyW Try.prog 33 [a0, a1, a2, a3] h κ = (
 cellsK False (Value.cells a0).toList 64 false fun o0 => newBlock False o0 h fun b1 h =>
 cellsK False (Value.cells a1).toList 3 false fun o2 => newBlock False o2 h fun b3 h =>
 cellsK False (Value.cells a2).toList 3 false fun o4 => newBlock False o4 h fun b5 h =>
 cellsK False [(Value.int .i64 (0)), (Value.int .i64 (0)), (Value.slice none 0 0), (Value.int .i64 (0))] 64 false fun o6 => newBlock False o6 h fun b7 h =>
 load1 False (ptrTo b3) h fun v8 h =>
 binB False Try.prog .lss 3 true false v8 (Value.int .i64 (0)) h fun v9 h =>
 GuardW (wantV v9 false) (fun K10 =>
 K10 a3 h) h fun v11 h =>
 GuardW (wantV v9 false) (fun K12 =>
 CallW Try.prog 50 [v11] h K12) h fun v13 h =>
 GuardW (wantV v9 false) (fun K14 =>
 unB False .not v13 h K14) h fun v15 h =>
 pickB False v9 (Value.bool true) v15 h fun v16 h =>
 CondW v16 (
 fillB False [] [] [(Value.int .i64 (0)), (Value.int .i64 (0)), (Value.slice none 0 0), (Value.int .i64 (0))] fun cs17 =>
 storeV False 4 (ptrTo b7) (Value.agg (Array.mk cs17)) h fun v18 h =>
 loadA False 4 (ptrTo b7) h fun v19 _ => κ (Value.tuple (Array.mk [v19, (Value.bool false), (Value.int .i64 (2))])) h) (
 rs_33_3 b1 b3 b5 b7 a3 h κ)) := by kernel_rfl

/-- container/heap.Push -/
theorem rs_34 (a0 a1 : Value) (h : Heap) (κ : Value → Heap → Prop) : BodyW Try.prog 34 [a0, a1] h κ = (
 CallI Try.prog "Push" a0 [a1] h fun v0 h =>
 CallI Try.prog "Len" a0 [] h fun v1 h =>
 binB False Try.prog .sub 3 true false v1 (Value.int .i64 (1)) h fun v2 h =>
 CallW Try.prog 54 [a0, v2] h fun v3 h =>
 κ (Value.tuple (Array.mk [])) h) := by kernel_rfl

noncomputable def rs_35_0 (v32 : Value) (N75 : List Value → Heap → Prop) (v74 : Value) (h : Heap) : Prop :=
 nilB False v32 h fun v77 h =>
 fieldAddrB False 3 v77 h fun v78 h =>
 load1 False v78 h fun v79 h =>
 nilB False v32 h fun v80 h =>
 fieldAddrB False 2 v80 h fun v81 h =>
 storeV False 1 v81 v79 h fun v82 h =>
 N75 [v74, v32, v32, v77, v78, v79, v80, v81, undef, undef, undef, undef, undef, undef, undef, undef, undef, undef, undef, undef] h

noncomputable def rs_35_1 (b12 : Nat) (v32 : Value) (N75 : List Value → Heap → Prop) (v74 : Value) (h : Heap) : Prop :=
 fieldAddrB False 0 (ptrTo b12) h fun v83 h =>
 fieldAddrB False 3 v83 h fun v84 h =>
 load1 False v84 h fun v85 h =>
 binB False Try.prog .add 3 true false v85 (Value.int .i64 (1)) h fun v86 h =>
 fieldAddrB False 0 (ptrTo b12) h fun v87 h =>
 fieldAddrB False 3 v87 h fun v88 h =>
 storeV False 1 v88 v86 h fun v89 h =>
 fieldAddrB False 0 (ptrTo b12) h fun v90 h =>
 fieldAddrB False 3 v90 h fun v91 h =>
 load1 False v91 h fun v92 h =>
 nilB False v32 h fun v93 h =>
 fieldAddrB False 4 v93 h fun v94 h =>
 storeV False 1 v94 v92 h fun v95 h =>
 N75 [v74, undef, undef, undef, undef, undef, undef, undef, v83, v84, v85, v86, v87, v88, v32, v90, v91, v92, v93, v94] h

noncomputable def rs_35_2 (b12 : Nat) (v15 : Value) (a2 : Value) (b3 : Nat) (h : Heap) (κ : Value → Heap → Prop) : Prop :=
 fieldAddrB False 0 (ptrTo b12) h fun v29 h =>
 fieldAddrB False 2 v29 h fun v30 h =>
 load1 False v30 h fun v31 h =>
 indexAddrS False 5 v31 v15 h fun v32 h =>
 nilB False v32 h fun v33 h =>
 fieldAddrB False 2 v33 h fun v34 h =>
 load1 False v34 h fun v35 h =>
 CallW Try.prog 55 [v35, a2] h fun v36 h =>
 nilB False v32 h fun v37 h =>
 fieldAddrB False 3 v37 h fun v38 h =>
 storeV False 1 v38 v36 h fun v39 h =>
 RdK (some v32) h fun v40 h =>
 RdK (nilB none v40 h fun v _ => some v) h fun v41 h =>
 RdK (fieldAddrB none 3 v41 h fun v _ => some v) h fun v42 h =>
 RdK (load1 none v42 h fun v _ => some v) h fun v43 h =>
 RdK (some v32) h fun v44 h =>
 RdK (nilB none v44 h fun v _ => some v) h fun v45 h =>
 RdK (fieldAddrB none 2 v45 h fun v _ => some v) h fun v46 h =>
 RdK (load1 none v46 h fun v _ => some v) h fun v47 h =>
 RdK (binB none Try.prog .eql 32 false false v43 v47 h fun v _ => some v) h fun v48 h =>
 RdK (some v48) h fun v49 h =>
 GuardW (wantV v49 false) (fun K50 =>
 RdK (loadA none 4 (ptrTo b12) h fun v _ => some v) h K50) h fun v51 h =>
 GuardW (wantV v49 false) (fun K52 =>
 RdK (some v32) h K52) h fun v53 h =>
 GuardW (wantV v49 false) (fun K54 =>
 RdK (nilB none v53 h fun v _ => some v) h K54) h fun v55 h =>
 GuardW (wantV v49 false) (fun K56 =>
 RdK (loadA none 5 v55 h fun v _ => some v) h K56) h fun v57 h =>
 GuardW (wantV v49 false) (fun K58 =>
 CallW Try.prog 53 [v51, v57] h K58) h fun v59 h =>
 GuardW (wantV v49 false) (fun K60 =>
 RdK (some v59) h K60) h fun v61 h =>
 GuardW (wantV v61 true) (fun K62 =>
 RdK (fieldAddrB none 0 (ptrTo b12) h fun v _ => some v) h K62) h fun v63 h =>
 GuardW (wantV v61 true) (fun K64 =>
 RdK (fieldAddrB none 2 v63 h fun v _ => some v) h K64) h fun v65 h =>
 GuardW (wantV v61 true) (fun K66 =>
 RdK (load1 none v65 h fun v _ => some v) h K66) h fun v67 h =>
 GuardW (wantV v61 true) (fun K68 =>
 CallW Try.prog 44 [v67, (Value.func (.func 56) (Array.mk []) (Array.mk []))] h K68) h fun v69 h =>
 GuardW (wantV v61 true) (fun K70 =>
 RdK (unB none .not v69 h fun v _ => some v) h K70) h fun v71 h =>
 GuardW (wantV v49 false) (fun K72 =>
 RdK (pickB none v61 v71 (Value.bool false) h fun v _ => some v) h K72) h fun v73 h =>
 RdK (pickB none v49 (Value.bool true) v73 h fun v _ => some v) h fun v74 h =>
 JoinR (fun N75 =>
 CondW v74 (
 rs_35_0 v32 N75 v74 h) (
 rs_35_1 b12 v32 N75 v74 h)) fun l76 h =>
 fieldAddrB False 0 (ptrTo b12) h fun v96 h =>
 loadA False 4 v96 h fun v97 h =>
 storeV False 4 (ptrTo b3) v97 h fun v98 h =>
 loadA False 4 (ptrTo b3) h fun v99 _ => κ (Value.tuple (Array.mk [v99, v74, (Value.int .i64 (0))])) h

noncomputable def rs_35_3 (b12 : Nat) (v15 : Value) (b3 : Nat) (a2 : Value) (h : Heap) (κ : Value → Heap → Prop) : Prop :=
 fieldAddrB False 0 (ptrTo b12) h fun v20 h =>
 fieldAddrB False 2 v20 h fun v21 h =>
 load1 False v21 h fun v22 h =>
 indexAddrS False 5 v22 v15 h fun v23 h =>
 loadA False 5 v23 h fun v24 h =>
 CallW Try.prog 46 [v24] h fun v25 h =>
 CondW v25 (
 fillB False [] [] [(Value.int .i64 (0)), (Value.int .i64 (0)), (Value.slice none 0 0), (Value.int .i64 (0))] fun cs26 =>
 storeV False 4 (ptrTo b3) (Value.agg (Array.mk cs26)) h fun v27 h =>
 loadA False 4 (ptrTo b3) h fun v28 _ => κ (Value.tuple (Array.mk [v28, (Value.bool false), (Value.int .i64 (7))])) h) (
 rs_35_2 b12 v15 a2 b3 h κ)

noncomputable def rs_35_4 (b1 : Nat) (a1 : Value) (b3 : Nat) (a2 : Value) (h : Heap) (κ : Value → Heap → Prop) : Prop :=
 loadA False 4 (ptrTo b1) h fun v9 h =>
 CallW Try.prog 43 [v9] h fun v10 h =>
 cellsK False [(Value.int .i64 (0)), (Value.int .i64 (0)), (Value.slice none 0 0), (Value.int .i64 (0))] 103 false fun o11 => newBlock False o11 h fun b12 h =>
 storeV False 4 (ptrTo b12) v10 h fun v13 h =>
 loadA False 4 (ptrTo b12) h fun v14 h =>
 CallW Try.prog 42 [v14, a1] h fun v15 h =>
 binB False Try.prog .lss 3 true false v15 (Value.int .i64 (0)) h fun v16 h =>
 CondW v16 (
 fillB False [] [] [(Value.int .i64 (0)), (Value.int .i64 (0)), (Value.slice none 0 0), (Value.int .i64 (0))] fun cs17 =>
 storeV False 4 (ptrTo b3) (Value.agg (Array.mk cs17)) h fun v18 h =>
 loadA False 4 (ptrTo b3) h fun v19 _ => κ (Value.tuple (Array.mk [v19, (Value.bool false), (Value.int .i64 (5))])) h) (
 rs_35_3 b12 v15 b3 a2 h κ)

/-- latchstring/queue.Upgrade -/
theorem rs_35 (a0 a1 a2 : Value) (h : Heap) (κ : Value → Heap → Prop) : BodyW Try.prog 35 [a0, a1, a2] h κ = (
 cellsK False (Value.cells a0).toList 64 false fun o0 => newBlock False o0 h fun b1 h =>
 cellsK False [(Value.int .i64 (0)), (Value.int .i64 (0)), (Value.slice none 0 0), (Value.int .i64 (0))] 64 false fun o2 => newBlock False o2 h fun b3 h =>
 CallW Try.prog 50 [a2] h fun v4 h =>
 unB False .not v4 h fun v5 h =>
 CondW v5 (
 fillB False [] [] [(Value.int .i64 (0)), (Value.int .i64 (0)), (Value.slice none 0 0), (Value.int .i64 (0))] fun cs6 =>
 storeV False 4 (ptrTo b3) (Value.agg (Array.mk cs6)) h fun v7 h =>
 loadA False 4 (ptrTo b3) h fun v8 _ => κ (Value.tuple (Array.mk [v8, (Value.bool false), (Value.int .i64 (2))])) h) (
 rs_35_4 b1 a1 b3 a2 h κ)) := by kernel_rfl

/-- latchstring/queue.Leave -/
theorem rs_36 (a0 a1 : Value) (h : Heap) (κ : Value → Heap → Prop) : BodyW Try.prog 36 [a0, a1] h κ = (
 cellsK False (Value.cells a0).toList 64 false fun o0 => newBlock False o0 h fun b1 h =>
 cellsK False [(Value.int .i64 (0)), (Value.int .i64 (0)), (Value.slice none 0 0), (Value.int .i64 (0))] 64 false fun o2 => newBlock False o2 h fun b3 h =>
 loadA False 4 (ptrTo b1) h fun v4 h =>
 CallW Try.prog 43 [v4] h fun v5 h =>
 cellsK False [(Value.int .i64 (0)), (Value.int .i64 (0)), (Value.slice none 0 0), (Value.int .i64 (0))] 103 false fun o6 => newBlock False o6 h fun b7 h =>
 storeV False 4 (ptrTo b7) v5 h fun v8 h =>
 loadA False 4 (ptrTo b7) h fun v9 h =>
 CallW Try.prog 42 [v9, a1] h fun v10 h =>
 binB False Try.prog .lss 3 true false v10 (Value.int .i64 (0)) h fun v11 h =>
 CondW v11 (
 fillB False [] [] [(Value.int .i64 (0)), (Value.int .i64 (0)), (Value.slice none 0 0), (Value.int .i64 (0))] fun cs12 =>
 storeV False 4 (ptrTo b3) (Value.agg (Array.mk cs12)) h fun v13 h =>
 loadA False 4 (ptrTo b3) h fun v14 _ => κ (Value.tuple (Array.mk [v14, (Value.int .i64 (5))])) h) (
 loadA False 4 (ptrTo b7) h fun v15 h =>
 CallW Try.prog 57 [v15, a1] h fun v16 h =>
 storeV False 4 (ptrTo b3) v16 h fun v17 h =>
 loadA False 4 (ptrTo b3) h fun v18 _ => κ (Value.tuple (Array.mk [v18, (Value.int .i64 (0))])) h)) := by kernel_rfl

noncomputable def rs_37_0 (a0 : Value) (a1 : Value) (h : Heap) (κ : Value → Heap → Prop) : Prop :=
 nilB False a0 h fun v3 h =>
 fieldAddrB False 1 v3 h fun v4 h =>
 load1 False v4 h fun v5 h =>
 indexAddrS False 1 v5 a1 h fun v6 h =>
 storeV False 1 v6 (Value.bool false) h fun v7 h =>
 nilB False a0 h fun v8 h =>
 fieldAddrB False 0 v8 h fun v9 h =>
 CallW Try.prog 34 [(Value.iface 93 v9), (Value.iface 3 a1)] h fun v10 h =>
 κ (Value.int .i64 (0)) h

/-- (*latchstring/pool.Pool).Give -/
theorem rs_37 (a0 a1 : Value) (h : Heap) (κ : Value → Heap → Prop) : BodyW Try.prog 37 [a0, a1] h κ = (
 binB False Try.prog .eql 25 true false a0 (Value.pointer none) h fun v0 h =>
 CondW v0 (
 κ (Value.int .i64 (1)) h) (
 CallW Try.prog 13 [a0, a1] h fun v1 h =>
 unB False .not v1 h fun v2 h =>
 CondW v2 (
 κ (Value.int .i64 (5)) h) (
 rs_37_0 a0 a1 h κ))) := by kernel_rfl

noncomputable def rs_38_0 (b7 : Nat) (v10 : Value) (b3 : Nat) (h : Heap) (κ : Value → Heap → Prop) : Prop :=
 RdK (fieldAddrB none 0 (ptrTo b7) h fun v _ => some v) h fun v36 h =>
 RdK (fieldAddrB none 2 v36 h fun v _ => some v) h fun v37 h =>
 RdK (load1 none v37 h fun v _ => some v) h fun v38 h =>
 RdK (some v10) h fun v39 h =>
 RdK (fieldAddrB none 0 (ptrTo b7) h fun v _ => some v) h fun v40 h =>
 RdK (fieldAddrB none 2 v40 h fun v _ => some v) h fun v41 h =>
 RdK (load1 none v41 h fun v _ => some v) h fun v42 h =>
 RdK (some v10) h fun v43 h =>
 RdK (fieldAddrB none 0 (ptrTo b7) h fun v _ => some v) h fun v44 h =>
 RdK (fieldAddrB none 2 v44 h fun v _ => some v) h fun v45 h =>
 RdK (load1 none v45 h fun v _ => some v) h fun v46 h =>
 RdK (some v10) h fun v47 h =>
 RdK (indexAddrS none 5 v46 v47 h fun v _ => some v) h fun v48 h =>
 RdK (fieldAddrB none 2 v48 h fun v _ => some v) h fun v49 h =>
 RdK (load1 none v49 h fun v _ => some v) h fun v50 h =>
 RdK (indexAddrS none 5 v38 v39 h fun v _ => some v) h fun v51 h =>
 RdK (fieldAddrB none 3 v51 h fun v _ => some v) h fun v52 h =>
 storeV False 1 v52 v50 h fun v53 h =>
 SameK ((reV (fieldAddrB none 0 (ptrTo b7) h fun v _ => some v) v40) && ((reV (fieldAddrB none 2 v40 h fun v _ => some v) v41) && ((reV (load1 none v41 h fun v _ => some v) v42) && ((reV (some v10) v43) && true)))) (RdK (indexAddrS none 5 v42 v43 h fun v _ => some v) h fun v54 h =>
 RdK (fieldAddrB none 4 v54 h fun v _ => some v) h fun v55 h =>
 storeV False 1 v55 (Value.int .i64 (0)) h fun v56 h =>
 fieldAddrB False 0 (ptrTo b7) h fun v57 h =>
 loadA False 4 v57 h fun v58 h =>
 storeV False 4 (ptrTo b3) v58 h fun v59 h =>
 loadA False 4 (ptrTo b3) h fun v60 _ => κ (Value.tuple (Array.mk [v60, (Value.int .i64 (0))])) h)

noncomputable def rs_38_1 (b7 : Nat) (v10 : Value) (a1 : Value) (b3 : Nat) (h : Heap) (κ : Value → Heap → Prop) : Prop :=
 fieldAddrB False 0 (ptrTo b7) h fun v25 h =>
 fieldAddrB False 2 v25 h fun v26 h =>
 load1 False v26 h fun v27 h =>
 indexAddrS False 5 v27 v10 h fun v28 h =>
 loadA False 5 v28 h fun v29 h =>
 CallW Try.prog 58 [v29] h fun v30 h =>
 unB False .not v30 h fun v31 h =>
 CondW v31 (
 loadA False 4 (ptrTo b7) h fun v32 h =>
 CallW Try.prog 57 [v32, a1] h fun v33 h =>
 storeV False 4 (ptrTo b3) v33 h fun v34 h =>
 loadA False 4 (ptrTo b3) h fun v35 _ => κ (Value.tuple (Array.mk [v35, (Value.int .i64 (0))])) h) (
 rs_38_0 b7 v10 b3 h κ)

noncomputable def rs_38_2 (b7 : Nat) (v10 : Value) (b3 : Nat) (a1 : Value) (h : Heap) (κ : Value → Heap → Prop) : Prop :=
 fieldAddrB False 0 (ptrTo b7) h fun v15 h =>
 fieldAddrB False 2 v15 h fun v16 h =>
 load1 False v16 h fun v17 h =>
 indexAddrS False 5 v17 v10 h fun v18 h =>
 loadA False 5 v18 h fun v19 h =>
 CallW Try.prog 46 [v19] h fun v20 h =>
 unB False .not v20 h fun v21 h =>
 CondW v21 (
 fillB False [] [] [(Value.int .i64 (0)), (Value.int .i64 (0)), (Value.slice none 0 0), (Value.int .i64 (0))] fun cs22 =>
 storeV False 4 (ptrTo b3) (Value.agg (Array.mk cs22)) h fun v23 h =>
 loadA False 4 (ptrTo b3) h fun v24 _ => κ (Value.tuple (Array.mk [v24, (Value.int .i64 (7))])) h) (
 rs_38_1 b7 v10 a1 b3 h κ)

/-- latchstring/queue.Abandon -/
theorem rs_38 (a0 a1 : Value) (h : Heap) (κ : Value → Heap → Prop) : BodyW Try.prog 38 [a0, a1] h κ = (
 cellsK False (Value.cells a0).toList 64 false fun o0 => newBlock False o0 h fun b1 h =>
 cellsK False [(Value.int .i64 (0)), (Value.int .i64 (0)), (Value.slice none 0 0), (Value.int .i64 (0))] 64 false fun o2 => newBlock False o2 h fun b3 h =>
 loadA False 4 (ptrTo b1) h fun v4 h =>
 CallW Try.prog 43 [v4] h fun v5 h =>
 cellsK False [(Value.int .i64 (0)), (Value.int .i64 (0)), (Value.slice none 0 0), (Value.int .i64 (0))] 103 false fun o6 => newBlock False o6 h fun b7 h =>
 storeV False 4 (ptrTo b7) v5 h fun v8 h =>
 loadA False 4 (ptrTo b7) h fun v9 h =>
 CallW Try.prog 42 [v9, a1] h fun v10 h =>
 binB False Try.prog .lss 3 true false v10 (Value.int .i64 (0)) h fun v11 h =>
 CondW v11 (
 fillB False [] [] [(Value.int .i64 (0)), (Value.int .i64 (0)), (Value.slice none 0 0), (Value.int .i64 (0))] fun cs12 =>
 storeV False 4 (ptrTo b3) (Value.agg (Array.mk cs12)) h fun v13 h =>
 loadA False 4 (ptrTo b3) h fun v14 _ => κ (Value.tuple (Array.mk [v14, (Value.int .i64 (5))])) h) (
 rs_38_2 b7 v10 b3 a1 h κ)) := by kernel_rfl

/-- slices.SortedFunc[latchstring/api.Name] -/
theorem rs_39 (a0 a1 : Value) (h : Heap) (κ : Value → Heap → Prop) : BodyW Try.prog 39 [a0, a1] h κ = (
 CallW Try.prog 59 [a0] h fun v0 h =>
 CallW Try.prog 60 [v0, a1] h fun v1 h =>
 κ v0 h) := by kernel_rfl

/-- maps.Keys[map[latchstring/api.Name]*latchstring/api.Head,latchstring/api.Name,*latchstring/api.Head] -/
theorem rs_40 (a0 : Value) (h : Heap) (κ : Value → Heap → Prop) : BodyW Try.prog 40 [a0] h κ = (
 cellsK False (Value.cells a0).toList 66 false fun o0 => newBlock False o0 h fun b1 h =>
 κ (Value.func (.func 61) (Array.mk []) (Array.mk [(ptrTo b1)])) h) := by kernel_rfl

/-- latchstring/name.Compare -/
theorem rs_41 (a0 a1 : Value) (h : Heap) (κ : Value → Heap → Prop) : BodyW Try.prog 41 [a0, a1] h κ = (
 cellsK False (Value.cells a0).toList 31 false fun o0 => newBlock False o0 h fun b1 h =>
 cellsK False (Value.cells a1).toList 31 false fun o2 => newBlock False o2 h fun b3 h =>
 RdK (fieldAddrB none 0 (ptrTo b1) h fun v _ => some v) h fun v4 h =>
 RdK (load1 none v4 h fun v _ => some v) h fun v5 h =>
 RdK (fieldAddrB none 0 (ptrTo b3) h fun v _ => some v) h fun v6 h =>
 RdK (load1 none v6 h fun v _ => some v) h fun v7 h =>
 RdK (fieldAddrB none 1 (ptrTo b1) h fun v _ => some v) h fun v8 h =>
 RdK (load1 none v8 h fun v _ => some v) h fun v9 h =>
 RdK (fieldAddrB none 1 (ptrTo b3) h fun v _ => some v) h fun v10 h =>
 RdK (load1 none v10 h fun v _ => some v) h fun v11 h =>
 CallW Try.prog 63 [v5, v7] h fun v12 h =>
 SameK ((reV (fieldAddrB none 1 (ptrTo b1) h fun v _ => some v) v8) && ((reV (load1 none v8 h fun v _ => some v) v9) && ((reV (fieldAddrB none 1 (ptrTo b3) h fun v _ => some v) v10) && ((reV (load1 none v10 h fun v _ => some v) v11) && true)))) (CallW Try.prog 63 [v9, v11] h fun v13 h =>
 AlK (fillB none [(0, 1), (1, 1)] [v12, v13] (repeatL [(Value.int .i64 (0))] 2) fun cs => cellsK none cs 3 false fun o => some (o, sliceTo 2 2)) h fun v14 h =>
 CallW Try.prog 62 [v14] h fun v15 h =>
 κ v15 h)) := by kernel_rfl

/-- (latchstring/queue.view).place -/
theorem rs_42 (a0 a1 : Value) (h : Heap) (κ : Value → Heap → Prop) : BodyW Try.prog 42 [a0, a1] h κ = (
 cellsK False (Value.cells a0).toList 103 false fun o0 => newBlock False o0 h fun b1 h =>
 cellsK False (Value.cells a1).toList 3 false fun o2 => newBlock False o2 h fun b3 h =>
 fieldAddrB False 0 (ptrTo b1) h fun v4 h =>
 fieldAddrB False 2 v4 h fun v5 h =>
 load1 False v5 h fun v6 h =>
 CallW Try.prog 29 [v6, (Value.func (.func 64) (Array.mk []) (Array.mk [(ptrTo b3)]))] h fun v7 h =>
 κ v7 h) := by kernel_rfl

/-- latchstring/queue.own -/
theorem rs_43 (a0 : Value) (h : Heap) (κ : Value → Heap → Prop) : BodyW Try.prog 43 [a0] h κ = (
 cellsK False (Value.cells a0).toList 64 false fun o0 => newBlock False o0 h fun b1 h =>
 cellsK False [(Value.int .i64 (0)), (Value.int .i64 (0)), (Value.slice none 0 0), (Value.int .i64 (0))] 103 false fun o2 => newBlock False o2 h fun b3 h =>
 fieldAddrB False 2 (ptrTo b1) h fun v4 h =>
 load1 False v4 h fun v5 h =>
 CallW Try.prog 22 [v5] h fun v6 h =>
 fieldAddrB False 2 (ptrTo b1) h fun v7 h =>
 storeV False 1 v7 v6 h fun v8 h =>
 loadA False 4 (ptrTo b1) h fun v9 h =>
 fillB False [(0, 4)] [v9] [(Value.int .i64 (0)), (Value.int .i64 (0)), (Value.slice none 0 0), (Value.int .i64 (0))] fun cs10 =>
 storeV False 4 (ptrTo b3) (Value.agg (Array.mk cs10)) h fun v11 h =>
 loadA False 4 (ptrTo b3) h fun v12 _ => κ v12 h) := by kernel_rfl

/-- latchstring/queue.Hand$1 -/
theorem rs_45 (a0 a1 a2 : Value) (h : Heap) (κ : Value → Heap → Prop) : BodyW Try.prog 45 [a0, a1, a2] h κ = (
 cellsK False (Value.cells a0).toList 38 false fun o0 => newBlock False o0 h fun b1 h =>
 fieldAddrB False 0 (ptrTo b1) h fun v2 h =>
 load1 False v2 h fun v3 h =>
 load1 False a1 h fun v4 h =>
 binB False Try.prog .neq 3 false false v3 v4 h fun v5 h =>
 GuardW (wantV v5 true) (fun K6 =>
 fieldAddrB False 1 (ptrTo b1) h K6) h fun v7 h =>
 GuardW (wantV v5 true) (fun K8 =>
 load1 False v7 h K8) h fun v9 h =>
 GuardW (wantV v5 true) (fun K10 =>
 load1 False a2 h K10) h fun v11 h =>
 GuardW (wantV v5 true) (fun K12 =>
 binB False Try.prog .eql 3 false false v9 v11 h K12) h fun v13 h =>
 pickB False v5 v13 (Value.bool false) h fun v14 h =>
 κ v14 h) := by kernel_rfl

/-- latchstring/queue.waits -/
theorem rs_46 (a0 : Value) (h : Heap) (κ : Value → Heap → Prop) : BodyW Try.prog 46 [a0] h κ = (
 cellsK False (Value.cells a0).toList 38 false fun o0 => newBlock False o0 h fun b1 h =>
 fieldAddrB False 4 (ptrTo b1) h fun v2 h =>
 load1 False v2 h fun v3 h =>
 binB False Try.prog .gtr 3 true false v3 (Value.int .i64 (0)) h fun v4 h =>
 κ v4 h) := by kernel_rfl

noncomputable def rs_47_0 (b7 : Nat) (v13 : Value) (l11 : List Value) (N10 : List Value → Heap → Prop) (v12 : Value) (v14 : Value) (v16 : Value) (v18 : Value) (v20 : Value) (v22 : Value) (v24 : Value) (v26 : Value) (v28 : Value) (v30 : Value) (v32 : Value) (v33 : Value) (h : Heap) : Prop :=
 RdK (fieldAddrB none 0 (ptrTo b7) h fun v _ => some v) h fun v38 h =>
 RdK (fieldAddrB none 2 v38 h fun v _ => some v) h fun v39 h =>
 RdK (load1 none v39 h fun v _ => some v) h fun v40 h =>
 RdK (some v13) h fun v41 h =>
 RdK (fieldAddrB none 0 (ptrTo b7) h fun v _ => some v) h fun v42 h =>
 RdK (fieldAddrB none 2 v42 h fun v _ => some v) h fun v43 h =>
 RdK (load1 none v43 h fun v _ => some v) h fun v44 h =>
 RdK (some v13) h fun v45 h =>
 RdK (fieldAddrB none 0 (ptrTo b7) h fun v _ => some v) h fun v46 h =>
 RdK (fieldAddrB none 2 v46 h fun v _ => some v) h fun v47 h =>
 RdK (load1 none v47 h fun v _ => some v) h fun v48 h =>
 RdK (some v13) h fun v49 h =>
 RdK (indexAddrS none 5 v48 v49 h fun v _ => some v) h fun v50 h =>
 RdK (fieldAddrB none 3 v50 h fun v _ => some v) h fun v51 h =>
 RdK (load1 none v51 h fun v _ => some v) h fun v52 h =>
 RdK (indexAddrS none 5 v40 v41 h fun v _ => some v) h fun v53 h =>
 RdK (fieldAddrB none 2 v53 h fun v _ => some v) h fun v54 h =>
 storeV False 1 v54 v52 h fun v55 h =>
 SameK ((reV (fieldAddrB none 0 (ptrTo b7) h fun v _ => some v) v42) && ((reV (fieldAddrB none 2 v42 h fun v _ => some v) v43) && ((reV (load1 none v43 h fun v _ => some v) v44) && ((reV (some v13) v45) && true)))) (RdK (indexAddrS none 5 v44 v45 h fun v _ => some v) h fun v56 h =>
 RdK (fieldAddrB none 4 v56 h fun v _ => some v) h fun v57 h =>
 storeV False 1 v57 (Value.int .i64 (0)) h fun v58 h =>
 fieldAddrB False 0 (ptrTo b7) h fun v59 h =>
 fieldAddrB False 2 v59 h fun v60 h =>
 load1 False v60 h fun v61 h =>
 indexAddrS False 5 v61 v13 h fun v62 h =>
 fieldAddrB False 0 v62 h fun v63 h =>
 load1 False v63 h fun v64 h =>
 fillB False [(0, 1)] [v64] (repeatL [(Value.int .i64 (0))] 1) fun cs67 => cellsK False cs67 3 false fun o65 => newBlock False o65 h fun b66 h =>
 appendB False 3 1 [(Value.int .i64 (0))] false (slot l11 49) (sliceTo 1 1 b66) h fun v68 h =>
 N10 [v12, v13, v13, v13, v14, v14, v16, v18, v20, v22, v24, v26, v28, v30, v32, v33, (slot l11 16), (slot l11 17), (slot l11 18), (slot l11 19), v38, v39, v40, v41, v42, v43, v44, v45, v46, v47, v48, v49, v50, v51, v52, v53, v54, v56, v57, (slot l11 49), v59, v60, v61, v13, v62, v63, v64, (sliceTo 1 1 b66), v68, v68] h)

noncomputable def rs_47_1 (b7 : Nat) (v9 : Value) (b3 : Nat) (l11 : List Value) (N10 : List Value → Heap → Prop) (h : Heap) (κ : Value → Heap → Prop) : Prop :=
 loadA False 4 (ptrTo b7) h fun v12 h =>
 CallW Try.prog 52 [v12] h fun v13 h =>
 binB False Try.prog .lss 3 true false v13 (Value.int .i64 (0)) h fun v14 h =>
 GuardW (wantV v14 false) (fun K15 =>
 K15 (Value.func (.func 53) (Array.mk [v9]) (Array.mk [])) h) h fun v16 h =>
 GuardW (wantV v14 false) (fun K17 =>
 fieldAddrB False 0 (ptrTo b7) h K17) h fun v18 h =>
 GuardW (wantV v14 false) (fun K19 =>
 fieldAddrB False 2 v18 h K19) h fun v20 h =>
 GuardW (wantV v14 false) (fun K21 =>
 load1 False v20 h K21) h fun v22 h =>
 GuardW (wantV v14 false) (fun K23 =>
 K23 v13 h) h fun v24 h =>
 GuardW (wantV v14 false) (fun K25 =>
 indexAddrS False 5 v22 v24 h K25) h fun v26 h =>
 GuardW (wantV v14 false) (fun K27 =>
 loadA False 5 v26 h K27) h fun v28 h =>
 GuardW (wantV v14 false) (fun K29 =>
 CallV Try.prog v16 [v28] h K29) h fun v30 h =>
 GuardW (wantV v14 false) (fun K31 =>
 unB False .not v30 h K31) h fun v32 h =>
 pickB False v14 (Value.bool true) v32 h fun v33 h =>
 CondW v33 (
 fieldAddrB False 0 (ptrTo b7) h fun v34 h =>
 loadA False 4 v34 h fun v35 h =>
 storeV False 4 (ptrTo b3) v35 h fun v36 h =>
 loadA False 4 (ptrTo b3) h fun v37 _ => κ (Value.tuple (Array.mk [v37, (slot l11 49)])) h) (
 rs_47_0 b7 v13 l11 N10 v12 v14 v16 v18 v20 v22 v24 v26 v28 v30 v32 v33 h)

/-- latchstring/queue.Scan -/
theorem rs_47 (a0 : Value) (h : Heap) (κ : Value → Heap → Prop) : BodyW Try.prog 47 [a0] h κ = (
 cellsK False (Value.cells a0).toList 64 false fun o0 => newBlock False o0 h fun b1 h =>
 cellsK False [(Value.int .i64 (0)), (Value.int .i64 (0)), (Value.slice none 0 0), (Value.int .i64 (0))] 64 false fun o2 => newBlock False o2 h fun b3 h =>
 loadA False 4 (ptrTo b1) h fun v4 h =>
 CallW Try.prog 43 [v4] h fun v5 h =>
 cellsK False [(Value.int .i64 (0)), (Value.int .i64 (0)), (Value.slice none 0 0), (Value.int .i64 (0))] 103 false fun o6 => newBlock False o6 h fun b7 h =>
 storeV False 4 (ptrTo b7) v5 h fun v8 h =>
 loadA False 4 (ptrTo b7) h fun v9 h =>
 LoopR [undef, undef, undef, undef, undef, undef, undef, undef, undef, undef, undef, undef, undef, undef, undef, undef, undef, undef, undef, (Value.slice none 0 0), undef, undef, undef, undef, undef, undef, undef, undef, undef, undef, undef, undef, undef, undef, undef, undef, undef, undef, undef, undef, undef, undef, undef, undef, undef, undef, undef, undef, undef, (Value.slice none 0 0)] h fun l11 h N10 =>
 rs_47_1 b7 v9 b3 l11 N10 h κ) := by kernel_rfl

/-- (sort.IntSlice).Len -/
theorem rs_48 (a0 : Value) (h : Heap) (κ : Value → Heap → Prop) : BodyW Try.prog 48 [a0] h κ = (
 lenSli False a0 h fun v0 h =>
 κ v0 h) := by kernel_rfl

/-- container/heap.Pop -/
theorem rs_49 (a0 : Value) (h : Heap) (κ : Value → Heap → Prop) : BodyW Try.prog 49 [a0] h κ = (
 CallI Try.prog "Len" a0 [] h fun v0 h =>
 binB False Try.prog .sub 3 true false v0 (Value.int .i64 (1)) h fun v1 h =>
 CallI Try.prog "Swap" a0 [(Value.int .i64 (0)), v1] h fun v2 h =>
 CallW Try.prog 65 [a0, (Value.int .i64 (0)), v1] h fun v3 h =>
 CallI Try.prog "Pop" a0 [] h fun v4 h =>
 κ v4 h) := by kernel_rfl

/-- latchstring/queue.asked -/
theorem rs_50 (a0 : Value) (h : Heap) (κ : Value → Heap → Prop) : BodyW Try.prog 50 [a0] h κ = (
 binB False Try.prog .neq 32 true false a0 (Value.int .i64 (0)) h fun v0 h =>
 GuardW (wantV v0 true) (fun K1 =>
 K1 a0 h) h fun v2 h =>
 GuardW (wantV v0 true) (fun K3 =>
 CallW Try.prog 31 [v2] h K3) h fun v4 h =>
 pickB False v0 v4 (Value.bool false) h fun v5 h =>
 κ v5 h) := by kernel_rfl

/-- latchstring/queue.Ask$1 -/
theorem rs_51 (a0 a1 a2 : Value) (h : Heap) (κ : Value → Heap → Prop) : BodyW Try.prog 51 [a0, a1, a2] h κ = (
 cellsK False (Value.cells a0).toList 38 false fun o0 => newBlock False o0 h fun b1 h =>
 fieldAddrB False 0 (ptrTo b1) h fun v2 h =>
 load1 False v2 h fun v3 h =>
 load1 False a1 h fun v4 h =>
 binB False Try.prog .eql 3 false false v3 v4 h fun v5 h =>
 GuardW (wantV v5 false) (fun K6 =>
 fieldAddrB False 1 (ptrTo b1) h K6) h fun v7 h =>
 GuardW (wantV v5 false) (fun K8 =>
 load1 False v7 h K8) h fun v9 h =>
 GuardW (wantV v5 false) (fun K10 =>
 load1 False a2 h K10) h fun v11 h =>
 GuardW (wantV v5 false) (fun K12 =>
 binB False Try.prog .eql 3 false false v9 v11 h K12) h fun v13 h =>
 pickB False v5 (Value.bool true) v13 h fun v14 h =>
 κ v14 h) := by kernel_rfl

noncomputable def rs_52_0 (v4 : Value) (l7 : List Value) (b1 : Nat) (N9 : List Value → Heap → Prop) (h : Heap) : Prop :=
 indexAddrS False 5 v4 (slot l7 27) h fun v11 h =>
 loadA False 5 v11 h fun v12 h =>
 cellsK False [(Value.int .i64 (0)), (Value.int .i64 (0)), (Value.int .i64 (0)), (Value.int .i64 (0)), (Value.int .i64 (0))] 38 false fun o13 => newBlock False o13 h fun b14 h =>
 storeV False 5 (ptrTo b14) v12 h fun v15 h =>
 RdK (loadA none 5 (ptrTo b14) h fun v _ => some v) h fun v16 h =>
 CallW Try.prog 56 [v16] h fun v17 h =>
 RdK (some v17) h fun v18 h =>
 GuardW (wantV v18 true) (fun K19 =>
 RdK (some (slot l7 25)) h K19) h fun v20 h =>
 GuardW (wantV v18 true) (fun K21 =>
 RdK (binB none Try.prog .lss 3 true false v20 (Value.int .i64 (0)) h fun v _ => some v) h K21) h fun v22 h =>
 GuardW (wantV v18 true) (fun K23 =>
 RdK (some v22) h K23) h fun v24 h =>
 GuardW (wantV v24 false) (fun K25 =>
 RdK (fieldAddrB none 4 (ptrTo b14) h fun v _ => some v) h K25) h fun v26 h =>
 GuardW (wantV v24 false) (fun K27 =>
 RdK (load1 none v26 h fun v _ => some v) h K27) h fun v28 h =>
 GuardW (wantV v24 false) (fun K29 =>
 RdK (fieldAddrB none 0 (ptrTo b1) h fun v _ => some v) h K29) h fun v30 h =>
 GuardW (wantV v24 false) (fun K31 =>
 RdK (fieldAddrB none 2 v30 h fun v _ => some v) h K31) h fun v32 h =>
 GuardW (wantV v24 false) (fun K33 =>
 RdK (load1 none v32 h fun v _ => some v) h K33) h fun v34 h =>
 GuardW (wantV v24 false) (fun K35 =>
 RdK (some (slot l7 25)) h K35) h fun v36 h =>
 GuardW (wantV v24 false) (fun K37 =>
 RdK (indexAddrS none 5 v34 v36 h fun v _ => some v) h K37) h fun v38 h =>
 GuardW (wantV v24 false) (fun K39 =>
 RdK (fieldAddrB none 4 v38 h fun v _ => some v) h K39) h fun v40 h =>
 GuardW (wantV v24 false) (fun K41 =>
 RdK (load1 none v40 h fun v _ => some v) h K41) h fun v42 h =>
 GuardW (wantV v24 false) (fun K43 =>
 RdK (binB none Try.prog .lss 3 false false v28 v42 h fun v _ => some v) h K43) h fun v44 h =>
 GuardW (wantV v18 true) (fun K45 =>
 RdK (pickB none v24 (Value.bool true) v44 h fun v _ => some v) h K45) h fun v46 h =>
 RdK (pickB none v18 v46 (Value.bool false) h fun v _ => some v) h fun v47 h =>
 CondW v47 (
 N9 [(slot l7 27), v11, v12, (ptrTo b14), (slot l7 27), v16, v17, v18, v20, v22, v24, v26, v28, v30, v32, v34, v36, v38, v40, v42, v44, v46, v47, (slot l7 27), (slot l7 27)] h) (
 N9 [(slot l7 27), v11, v12, (ptrTo b14), (slot l7 27), v16, v17, v18, v20, v22, v24, v26, v28, v30, v32, v34, v36, v38, v40, v42, v44, v46, v47, (slot l7 24), (slot l7 25)] h)

noncomputable def rs_52_1 (l7 : List Value) (b1 : Nat) (N49 : List Value → Heap → Prop) (h : Heap) : Prop :=
 binB False Try.prog .lss 3 true false (slot l7 25) (Value.int .i64 (0)) h fun v51 h =>
 CondW v51 (
 fieldAddrB False 0 (ptrTo b1) h fun v52 h =>
 fieldAddrB False 2 v52 h fun v53 h =>
 load1 False v53 h fun v54 h =>
 CallW Try.prog 29 [v54, (Value.func (.func 66) (Array.mk []) (Array.mk []))] h fun v55 h =>
 N49 [(slot l7 25), v51, v52, v53, v54, v55, v55] h) (
 N49 [(slot l7 25), v51, undef, undef, undef, undef, (slot l7 25)] h)

noncomputable def rs_52_2 (l7 : List Value) (v5 : Value) (v4 : Value) (b1 : Nat) (N6 : List Value → Heap → Prop) (h : Heap) (κ : Value → Heap → Prop) : Prop :=
 binB False Try.prog .lss 3 false false (slot l7 27) v5 h fun v8 h =>
 CondW v8 (
 JoinR (fun N9 =>
 rs_52_0 v4 l7 b1 N9 h) fun l10 h =>
 binB False Try.prog .add 3 true false (slot l7 27) (Value.int .i64 (1)) h fun v48 h =>
 N6 [v8, (slot l10 0), (slot l10 1), (slot l10 2), (slot l10 3), (slot l10 4), (slot l10 5), (slot l10 6), (slot l10 7), (slot l10 8), (slot l10 9), (slot l10 10), (slot l10 11), (slot l10 12), (slot l10 13), (slot l10 14), (slot l10 15), (slot l10 16), (slot l10 17), (slot l10 18), (slot l10 19), (slot l10 20), (slot l10 21), (slot l10 22), (slot l10 23), (slot l10 24), v48, v48] h) (
 JoinR (fun N49 =>
 rs_52_1 l7 b1 N49 h) fun l50 h =>
 κ (slot l50 6) h)

/-- (latchstring/queue.view).first -/
theorem rs_52 (a0 : Value) (h : Heap) (κ : Value → Heap → Prop) : BodyW Try.prog 52 [a0] h κ = (
 cellsK False (Value.cells a0).toList 103 false fun o0 => newBlock False o0 h fun b1 h =>
 fieldAddrB False 0 (ptrTo b1) h fun v2 h =>
 fieldAddrB False 2 v2 h fun v3 h =>
 load1 False v3 h fun v4 h =>
 lenSli False v4 h fun v5 h =>
 LoopR [undef, undef, undef, undef, undef, undef, undef, undef, undef, undef, undef, undef, undef, undef, undef, undef, undef, undef, undef, undef, undef, undef, undef, undef, undef, (Value.int .i64 (-1)), undef, (Value.int .i64 (0))] h fun l7 h N6 =>
 rs_52_2 l7 v5 v4 b1 N6 h κ) := by kernel_rfl

/-- (latchstring/queue.view).fits -/
theorem rs_53 (a0 a1 : Value) (h : Heap) (κ : Value → Heap → Prop) : BodyW Try.prog 53 [a0, a1] h κ = (
 cellsK False (Value.cells a0).toList 103 false fun o0 => newBlock False o0 h fun b1 h =>
 cellsK False (Value.cells a1).toList 38 false fun o2 => newBlock False o2 h fun b3 h =>
 fieldAddrB False 0 (ptrTo b1) h fun v4 h =>
 fieldAddrB False 2 v4 h fun v5 h =>
 load1 False v5 h fun v6 h =>
 CallW Try.prog 44 [v6, (Value.func (.func 67) (Array.mk []) (Array.mk [(ptrTo b3)]))] h fun v7 h =>
 unB False .not v7 h fun v8 h =>
 κ v8 h) := by kernel_rfl

noncomputable def rs_54_0 (l1 : List Value) (a0 : Value) (N0 : List Value → Heap → Prop) (h : Heap) (κ : Value → Heap → Prop) : Prop :=
 binB False Try.prog .sub 3 true false (slot l1 19) (Value.int .i64 (1)) h fun v2 h =>
 binB False Try.prog .quo 3 true false v2 (Value.int .i64 (2)) h fun v3 h =>
 binB False Try.prog .eql 3 false false v3 (slot l1 19) h fun v4 h =>
 GuardW (wantV v4 false) (fun K5 =>
 K5 a0 h) h fun v6 h =>
 GuardW (wantV v4 false) (fun K7 =>
 K7 (slot l1 19) h) h fun v8 h =>
 GuardW (wantV v4 false) (fun K9 =>
 K9 v3 h) h fun v10 h =>
 GuardW (wantV v4 false) (fun K11 =>
 CallI Try.prog "Less" v6 [v8, v10] h K11) h fun v12 h =>
 GuardW (wantV v4 false) (fun K13 =>
 unB False .not v12 h K13) h fun v14 h =>
 pickB False v4 (Value.bool true) v14 h fun v15 h =>
 CondW v15 (
 κ (Value.tuple (Array.mk [])) h) (
 CallI Try.prog "Swap" a0 [v3, (slot l1 19)] h fun v16 h =>
 N0 [(slot l1 19), v2, v3, v3, v3, (slot l1 19), v4, v4, v6, v8, v10, v12, v14, v15, a0, v3, (slot l1 19), v16, v3, v3] h)

/-- container/heap.up -/
theorem rs_54 (a0 a1 : Value) (h : Heap) (κ : Value → Heap → Prop) : BodyW Try.prog 54 [a0, a1] h κ = (
 LoopR [undef, undef, undef, undef, undef, undef, undef, undef, undef, undef, undef, undef, undef, undef, undef, undef, undef, undef, undef, a1] h fun l1 h N0 =>
 rs_54_0 l1 a0 N0 h κ) := by kernel_rfl

/-- latchstring/queue.upgrades -/
theorem rs_56 (a0 : Value) (h : Heap) (κ : Value → Heap → Prop) : BodyW Try.prog 56 [a0] h κ = (
 cellsK False (Value.cells a0).toList 38 false fun o0 => newBlock False o0 h fun b1 h =>
 loadA False 5 (ptrTo b1) h fun v2 h =>
 CallW Try.prog 58 [v2] h fun v3 h =>
 GuardW (wantV v3 true) (fun K4 =>
 loadA False 5 (ptrTo b1) h K4) h fun v5 h =>
 GuardW (wantV v3 true) (fun K6 =>
 CallW Try.prog 46 [v5] h K6) h fun v7 h =>
 pickB False v3 v7 (Value.bool false) h fun v8 h =>
 κ v8 h) := by kernel_rfl

/-- (latchstring/queue.view).without -/
theorem rs_57 (a0 a1 : Value) (h : Heap) (κ : Value → Heap → Prop) : BodyW Try.prog 57 [a0, a1] h κ = (
 cellsK False (Value.cells a0).toList 103 false fun o0 => newBlock False o0 h fun b1 h =>
 cellsK False (Value.cells a1).toList 3 false fun o2 => newBlock False o2 h fun b3 h =>
 cellsK False [(Value.int .i64 (0)), (Value.int .i64 (0)), (Value.slice none 0 0), (Value.int .i64 (0))] 64 false fun o4 => newBlock False o4 h fun b5 h =>
 fieldAddrB False 0 (ptrTo b1) h fun v6 h =>
 fieldAddrB False 2 v6 h fun v7 h =>
 load1 False v7 h fun v8 h =>
 CallW Try.prog 70 [v8, (Value.func (.func 71) (Array.mk []) (Array.mk [(ptrTo b3)]))] h fun v9 h =>
 fieldAddrB False 0 (ptrTo b1) h fun v10 h =>
 fieldAddrB False 2 v10 h fun v11 h =>
 storeV False 1 v11 v9 h fun v12 h =>
 fieldAddrB False 0 (ptrTo b1) h fun v13 h =>
 loadA False 4 v13 h fun v14 h =>
 storeV False 4 (ptrTo b5) v14 h fun v15 h =>
 loadA False 4 (ptrTo b5) h fun v16 _ => κ v16 h) := by kernel_rfl

/-- latchstring/queue.holds -/
theorem rs_58 (a0 : Value) (h : Heap) (κ : Value → Heap → Prop) : BodyW Try.prog 58 [a0] h κ = (
 cellsK False (Value.cells a0).toList 38 false fun o0 => newBlock False o0 h fun b1 h =>
 fieldAddrB False 2 (ptrTo b1) h fun v2 h =>
 load1 False v2 h fun v3 h =>
 binB False Try.prog .neq 32 true false v3 (Value.int .i64 (0)) h fun v4 h =>
 κ v4 h) := by kernel_rfl

/-- slices.Collect[latchstring/api.Name] -/
theorem rs_59 (a0 : Value) (h : Heap) (κ : Value → Heap → Prop) : BodyW Try.prog 59 [a0] h κ = (
 CallW Try.prog 72 [(Value.slice none 0 0), a0] h fun v0 h =>
 κ v0 h) := by kernel_rfl

/-- slices.SortFunc[[]latchstring/api.Name,latchstring/api.Name] -/
theorem rs_60 (a0 a1 : Value) (h : Heap) (κ : Value → Heap → Prop) : BodyW Try.prog 60 [a0, a1] h κ = (
 lenSli False a0 h fun v0 h =>
 convI False .u64 v0 h fun v1 h =>
 CallW Try.prog 74 [v1] h fun v2 h =>
 CallW Try.prog 73 [a0, (Value.int .i64 (0)), v0, v2, a1] h fun v3 h =>
 κ (Value.tuple (Array.mk [])) h) := by kernel_rfl

noncomputable def rs_62_0 (a0 : Value) (l2 : List Value) (N1 : List Value → Heap → Prop) (v3 : Value) (h : Heap) (κ : Value → Heap → Prop) : Prop :=
 indexAddrS False 1 a0 (slot l2 10) h fun v4 h =>
 load1 False v4 h fun v5 h =>
 binB False Try.prog .neq 3 false false v5 (Value.int .i64 (0)) h fun v6 h =>
 CondW v6 (
 κ v5 h) (
 binB False Try.prog .add 3 true false (slot l2 10) (Value.int .i64 (1)) h fun v7 h =>
 N1 [v3, v4, v5, v5, v5, (Value.int .i64 (0)), v6, (slot l2 7), (slot l2 8), v7, v7] h)

/-- cmp.Or[int] -/
theorem rs_62 (a0 : Value) (h : Heap) (κ : Value → Heap → Prop) : BodyW Try.prog 62 [a0] h κ = (
 lenSli False a0 h fun v0 h =>
 LoopR [undef, undef, undef, undef, undef, undef, undef, undef, (Value.int .i64 (0)), undef, (Value.int .i64 (0))] h fun l2 h N1 =>
 binB False Try.prog .lss 3 false false (slot l2 10) v0 h fun v3 h =>
 CondW v3 (
 rs_62_0 a0 l2 N1 v3 h κ) (
 κ (Value.int .i64 (0)) h)) := by kernel_rfl

noncomputable def rs_63_0 (a0 : Value) (a1 : Value) (h : Heap) (κ : Value → Heap → Prop) : Prop :=
 binB False Try.prog .lss 3 false false a0 a1 h fun v2 h =>
 CondW v2 (
 κ (Value.int .i64 (-1)) h) (
 binB False Try.prog .gtr 3 false false a0 a1 h fun v3 h =>
 CondW v3 (
 κ (Value.int .i64 (1)) h) (
 κ (Value.int .i64 (0)) h))

/-- cmp.Compare[int] -/
theorem rs_63 (a0 a1 : Value) (h : Heap) (κ : Value → Heap → Prop) : BodyW Try.prog 63 [a0, a1] h κ = (
 CallW Try.prog 75 [a0] h fun v0 h =>
 CallW Try.prog 75 [a1] h fun v1 h =>
 CondW v0 (
 CondW v1 (
 κ (Value.int .i64 (0)) h) (
 κ (Value.int .i64 (-1)) h)) (
 CondW v1 (
 κ (Value.int .i64 (1)) h) (
 rs_63_0 a0 a1 h κ))) := by kernel_rfl

/-- (latchstring/queue.view).place$1 -/
theorem rs_64 (a0 a1 : Value) (h : Heap) (κ : Value → Heap → Prop) : BodyW Try.prog 64 [a0, a1] h κ = (
 cellsK False (Value.cells a0).toList 38 false fun o0 => newBlock False o0 h fun b1 h =>
 fieldAddrB False 0 (ptrTo b1) h fun v2 h =>
 load1 False v2 h fun v3 h =>
 load1 False a1 h fun v4 h =>
 binB False Try.prog .eql 3 false false v3 v4 h fun v5 h =>
 κ v5 h) := by kernel_rfl

noncomputable def rs_65_0 (v5 : Value) (a2 : Value) (a0 : Value) (N12 : List Value → Heap → Prop) (l3 : List Value) (h : Heap) : Prop :=
 binB False Try.prog .add 3 true false v5 (Value.int .i64 (1)) h fun v14 h =>
 binB False Try.prog .lss 3 false false v14 a2 h fun v15 h =>
 GuardW (wantV v15 true) (fun K16 =>
 K16 a0 h) h fun v17 h =>
 GuardW (wantV v15 true) (fun K18 =>
 K18 v14 h) h fun v19 h =>
 GuardW (wantV v15 true) (fun K20 =>
 K20 v5 h) h fun v21 h =>
 GuardW (wantV v15 true) (fun K22 =>
 CallI Try.prog "Less" v17 [v19, v21] h K22) h fun v23 h =>
 pickB False v15 v23 (Value.bool false) h fun v24 h =>
 CondW v24 (
 N12 [v5, v14, v14, v14, a2, v15, v15, v17, v19, v21, v23, v24, v14, v14] h) (
 N12 [v5, v14, v14, v14, a2, v15, v15, v17, v19, v21, v23, v24, (slot l3 24), v5] h)

noncomputable def rs_65_1 (v5 : Value) (a2 : Value) (a0 : Value) (l3 : List Value) (N0 : List Value → Heap → Prop) (v4 : Value) (v6 : Value) (v8 : Value) (v10 : Value) (v11 : Value) (N2 : List Value → Heap → Prop) (h : Heap) : Prop :=
 JoinR (fun N12 =>
 rs_65_0 v5 a2 a0 N12 l3 h) fun l13 h =>
 CallI Try.prog "Less" a0 [(slot l13 13), (slot l3 36)] h fun v25 h =>
 unB False .not v25 h fun v26 h =>
 CondW v26 (
 N0 [(slot l3 36), v4, v5, v5, v5, a2, v6, v6, v8, v10, v11, v5, (slot l13 0), (slot l13 1), (slot l13 2), (slot l13 3), (slot l13 4), (slot l13 5), (slot l13 6), (slot l13 7), (slot l13 8), (slot l13 9), (slot l13 10), (slot l13 11), (slot l13 12), (slot l13 13), a0, (slot l13 13), (slot l3 36), v25, v26, (slot l3 31), (slot l3 32), (slot l3 33), (slot l3 34), (slot l3 35), (slot l3 36)] h) (
 CallI Try.prog "Swap" a0 [(slot l3 36), (slot l13 13)] h fun v27 h =>
 N2 [(slot l3 36), v4, v5, v5, v5, a2, v6, v6, v8, v10, v11, v5, (slot l13 0), (slot l13 1), (slot l13 2), (slot l13 3), (slot l13 4), (slot l13 5), (slot l13 6), (slot l13 7), (slot l13 8), (slot l13 9), (slot l13 10), (slot l13 11), (slot l13 12), (slot l13 13), a0, (slot l13 13), (slot l3 36), v25, v26, a0, (slot l3 36), (slot l13 13), v27, (slot l13 13), (slot l13 13)] h)

noncomputable def rs_65_2 (l3 : List Value) (a2 : Value) (N0 : List Value → Heap → Prop) (a0 : Value) (N2 : List Value → Heap → Prop) (h : Heap) : Prop :=
 binB False Try.prog .mul 3 true false (Value.int .i64 (2)) (slot l3 36) h fun v4 h =>
 binB False Try.prog .add 3 true false v4 (Value.int .i64 (1)) h fun v5 h =>
 binB False Try.prog .geq 3 false false v5 a2 h fun v6 h =>
 GuardW (wantV v6 false) (fun K7 =>
 K7 v5 h) h fun v8 h =>
 GuardW (wantV v6 false) (fun K9 =>
 binB False Try.prog .lss 3 true false v8 (Value.int .i64 (0)) h K9) h fun v10 h =>
 pickB False v6 (Value.bool true) v10 h fun v11 h =>
 CondW v11 (
 N0 [(slot l3 36), v4, v5, v5, v5, a2, v6, v6, v8, v10, v11, (slot l3 11), (slot l3 12), (slot l3 13), (slot l3 14), (slot l3 15), (slot l3 16), (slot l3 17), (slot l3 18), (slot l3 19), (slot l3 20), (slot l3 21), (slot l3 22), (slot l3 23), (slot l3 24), (slot l3 25), (slot l3 26), (slot l3 27), (slot l3 28), (slot l3 29), (slot l3 30), (slot l3 31), (slot l3 32), (slot l3 33), (slot l3 34), (slot l3 35), (slot l3 36)] h) (
 rs_65_1 v5 a2 a0 l3 N0 v4 v6 v8 v10 v11 N2 h)

/-- container/heap.down -/
theorem rs_65 (a0 a1 a2 : Value) (h : Heap) (κ : Value → Heap → Prop) : BodyW Try.prog 65 [a0, a1, a2] h κ = (
 JoinR (fun N0 =>
 LoopR [undef, undef, undef, undef, undef, undef, undef, undef, undef, undef, undef, undef, undef, undef, undef, undef, undef, undef, undef, undef, undef, undef, undef, undef, undef, undef, undef, undef, undef, undef, undef, undef, undef, undef, undef, undef, a1] h fun l3 h N2 =>
 rs_65_2 l3 a2 N0 a0 N2 h) fun l1 h =>
 binB False Try.prog .gtr 3 false false (slot l1 36) a1 h fun v28 h =>
 κ v28 h) := by kernel_rfl

/-- (latchstring/queue.view).first$1 -/
theorem rs_66 (a0 : Value) (h : Heap) (κ : Value → Heap → Prop) : BodyW Try.prog 66 [a0] h κ = (
 cellsK False (Value.cells a0).toList 38 false fun o0 => newBlock False o0 h fun b1 h =>
 loadA False 5 (ptrTo b1) h fun v2 h =>
 CallW Try.prog 58 [v2] h fun v3 h =>
 unB False .not v3 h fun v4 h =>
 κ v4 h) := by kernel_rfl

/-- (latchstring/queue.view).fits$1 -/
theorem rs_67 (a0 a1 : Value) (h : Heap) (κ : Value → Heap → Prop) : BodyW Try.prog 67 [a0, a1] h κ = (
 cellsK False (Value.cells a0).toList 38 false fun o0 => newBlock False o0 h fun b1 h =>
 fieldAddrB False 0 (ptrTo b1) h fun v2 h =>
 load1 False v2 h fun v3 h =>
 fieldAddrB False 0 a1 h fun v4 h =>
 load1 False v4 h fun v5 h =>
 binB False Try.prog .neq 3 false false v3 v5 h fun v6 h =>
 GuardW (wantV v6 true) (fun K7 =>
 loadA False 5 (ptrTo b1) h K7) h fun v8 h =>
 GuardW (wantV v6 true) (fun K9 =>
 CallW Try.prog 58 [v8] h K9) h fun v10 h =>
 pickB False v6 v10 (Value.bool false) h fun v11 h =>
 GuardW (wantV v11 true) (fun K12 =>
 fieldAddrB False 2 (ptrTo b1) h K12) h fun v13 h =>
 GuardW (wantV v11 true) (fun K14 =>
 load1 False v13 h K14) h fun v15 h =>
 GuardW (wantV v11 true) (fun K16 =>
 fieldAddrB False 3 a1 h K16) h fun v17 h =>
 GuardW (wantV v11 true) (fun K18 =>
 load1 False v17 h K18) h fun v19 h =>
 GuardW (wantV v11 true) (fun K20 =>
 CallW Try.prog 68 [v15, v19] h K20) h fun v21 h =>
 GuardW (wantV v11 true) (fun K22 =>
 unB False .not v21 h K22) h fun v23 h =>
 pickB False v11 v23 (Value.bool false) h fun v24 h =>
 κ v24 h) := by kernel_rfl

/-- (latchstring/queue.view).without$1 -/
theorem rs_71 (a0 a1 : Value) (h : Heap) (κ : Value → Heap → Prop) : BodyW Try.prog 71 [a0, a1] h κ = (
 cellsK False (Value.cells a0).toList 38 false fun o0 => newBlock False o0 h fun b1 h =>
 fieldAddrB False 0 (ptrTo b1) h fun v2 h =>
 load1 False v2 h fun v3 h =>
 load1 False a1 h fun v4 h =>
 binB False Try.prog .eql 3 false false v3 v4 h fun v5 h =>
 κ v5 h) := by kernel_rfl

noncomputable def rs_73_0 (a0 : Value) (l1 : List Value) (l16 : List Value) (a4 : Value) (v2 : Value) (l8 : List Value) (N0 : List Value → Heap → Prop) (v3 : Value) (v5 : Value) (v12 : Value) (v13 : Value) (v14 : Value) (l23 : List Value) (v33 : Value) (v34 : Value) (v35 : Value) (v37 : Value) (v39 : Value) (v41 : Value) (v43 : Value) (v45 : Value) (v47 : Value) (v49 : Value) (v51 : Value) (v53 : Value) (v55 : Value) (v57 : Value) (v59 : Value) (v61 : Value) (v62 : Value) (h : Heap) : Prop :=
 CallW Try.prog 86 [a0, (slot l1 127), (slot l1 140), (slot l16 13), a4] h fun v64 h =>
 extractB False 0 v64 h fun v65 h =>
 extractB False 1 v64 h fun v66 h =>
 binB False Try.prog .sub 3 false false v65 (slot l1 127) h fun v67 h =>
 binB False Try.prog .sub 3 false false (slot l1 140) v65 h fun v68 h =>
 binB False Try.prog .quo 3 true false v2 (Value.int .i64 (8)) h fun v69 h =>
 binB False Try.prog .lss 3 false false v67 v68 h fun v70 h =>
 CondW v70 (
 binB False Try.prog .geq 3 false false v67 v69 h fun v71 h =>
 CallW Try.prog 73 [a0, (slot l1 127), v65, (slot l8 9), a4] h fun v72 h =>
 binB False Try.prog .add 3 true false v65 (Value.int .i64 (1)) h fun v73 h =>
 N0 [(slot l1 140), (slot l1 127), v2, v2, v2, v3, (slot l1 6), (slot l1 7), (slot l1 8), (slot l1 9), (slot l1 10), (slot l1 27), v5, (slot l1 13), (slot l1 14), (slot l1 15), (slot l1 16), (slot l1 17), (slot l8 0), (slot l8 1), (slot l8 2), (slot l8 3), (slot l8 4), (slot l8 5), (slot l8 6), (slot l8 7), (slot l8 8), (slot l8 9), a0, (slot l1 127), (slot l1 140), a4, v12, v12, v13, v14, (slot l16 0), (slot l16 1), (slot l16 2), (slot l16 3), (slot l16 4), (slot l16 5), (slot l16 6), (slot l16 7), (slot l16 8), (slot l16 9), (slot l16 10), (slot l16 11), (slot l16 12), (slot l16 13), (slot l16 14), (slot l23 0), (slot l23 1), (slot l23 2), (slot l23 3), (slot l23 4), (slot l23 5), (slot l23 6), (slot l23 7), (slot l23 8), (slot l23 9), (slot l23 10), (slot l23 11), (slot l23 12), v33, v34, v35, v37, v39, v41, v43, v45, v47, v49, v51, v53, v55, v57, v59, v61, v62, (slot l1 81), (slot l1 82), (slot l1 83), (slot l1 84), (slot l1 85), (slot l1 86), (slot l1 87), (slot l1 88), a0, (slot l1 127), (slot l1 140), (slot l16 13), a4, v64, v64, v65, v66, v65, v66, v66, v66, v65, (slot l1 127), v67, (slot l1 140), v65, v68, v67, v68, v2, v69, v69, v67, v68, v70, v67, v69, v71, a0, (slot l1 127), v65, (slot l8 9), a4, v72, v65, v73, v73, (slot l1 128), (slot l1 129), (slot l1 130), v71, (slot l1 132), (slot l1 133), (slot l1 134), (slot l1 135), (slot l1 136), (slot l1 137), (slot l1 138), (slot l1 139), (slot l1 140)] h) (
 binB False Try.prog .geq 3 false false v68 v69 h fun v74 h =>
 binB False Try.prog .add 3 true false v65 (Value.int .i64 (1)) h fun v75 h =>
 CallW Try.prog 73 [a0, v75, (slot l1 140), (slot l8 9), a4] h fun v76 h =>
 N0 [(slot l1 140), (slot l1 127), v2, v2, v2, v3, (slot l1 6), (slot l1 7), (slot l1 8), (slot l1 9), (slot l1 10), (slot l1 27), v5, (slot l1 13), (slot l1 14), (slot l1 15), (slot l1 16), (slot l1 17), (slot l8 0), (slot l8 1), (slot l8 2), (slot l8 3), (slot l8 4), (slot l8 5), (slot l8 6), (slot l8 7), (slot l8 8), (slot l8 9), a0, (slot l1 127), (slot l1 140), a4, v12, v12, v13, v14, (slot l16 0), (slot l16 1), (slot l16 2), (slot l16 3), (slot l16 4), (slot l16 5), (slot l16 6), (slot l16 7), (slot l16 8), (slot l16 9), (slot l16 10), (slot l16 11), (slot l16 12), (slot l16 13), (slot l16 14), (slot l23 0), (slot l23 1), (slot l23 2), (slot l23 3), (slot l23 4), (slot l23 5), (slot l23 6), (slot l23 7), (slot l23 8), (slot l23 9), (slot l23 10), (slot l23 11), (slot l23 12), v33, v34, v35, v37, v39, v41, v43, v45, v47, v49, v51, v53, v55, v57, v59, v61, v62, (slot l1 81), (slot l1 82), (slot l1 83), (slot l1 84), (slot l1 85), (slot l1 86), (slot l1 87), (slot l1 88), a0, (slot l1 127), (slot l1 140), (slot l16 13), a4, v64, v64, v65, v66, v65, v66, v66, v66, v65, (slot l1 127), v67, (slot l1 140), v65, v68, v67, v68, v2, v69, v69, v67, v68, v70, (slot l1 116), (slot l1 117), (slot l1 118), (slot l1 119), (slot l1 120), (slot l1 121), (slot l1 122), (slot l1 123), (slot l1 124), (slot l1 125), (slot l1 126), (slot l1 127), v68, v69, v74, v74, a0, v65, v75, (slot l1 140), (slot l8 9), a4, v76, v65, v65] h)

noncomputable def rs_73_1 (l1 : List Value) (l16 : List Value) (a0 : Value) (a4 : Value) (N22 : List Value → Heap → Prop) (h : Heap) (κ : Value → Heap → Prop) : Prop :=
 GuardW (wantV (slot l1 131) true) (fun K24 =>
 K24 (slot l1 101) h) h fun v25 h =>
 pickB False (slot l1 131) v25 (Value.bool false) h fun v26 h =>
 GuardW (wantV v26 true) (fun K27 =>
 K27 (slot l16 14) h) h fun v28 h =>
 GuardW (wantV v26 true) (fun K29 =>
 binB False Try.prog .eql 137 true false v28 (Value.int .i64 (1)) h K29) h fun v30 h =>
 pickB False v26 v30 (Value.bool false) h fun v31 h =>
 CondW v31 (
 CallW Try.prog 84 [a0, (slot l1 127), (slot l1 140), a4] h fun v32 h =>
 CondW v32 (
 κ (Value.tuple (Array.mk [])) h) (
 N22 [(slot l1 131), (slot l1 131), v25, v26, v26, v28, v30, v31, a0, (slot l1 127), (slot l1 140), a4, v32] h)) (
 N22 [(slot l1 131), (slot l1 131), v25, v26, v26, v28, v30, v31, (slot l1 59), (slot l1 60), (slot l1 61), (slot l1 62), (slot l1 63)] h)

noncomputable def rs_73_2 (l1 : List Value) (a4 : Value) (a0 : Value) (l16 : List Value) (N0 : List Value → Heap → Prop) (v2 : Value) (v3 : Value) (v5 : Value) (l8 : List Value) (v12 : Value) (v13 : Value) (v14 : Value) (l23 : List Value) (h : Heap) : Prop :=
 RdK (some (slot l1 127)) h fun v33 h =>
 RdK (binB none Try.prog .gtr 3 true false v33 (Value.int .i64 (0)) h fun v _ => some v) h fun v34 h =>
 RdK (some v34) h fun v35 h =>
 GuardW (wantV v35 true) (fun K36 =>
 RdK (some a4) h K36) h fun v37 h =>
 GuardW (wantV v35 true) (fun K38 =>
 RdK (some a0) h K38) h fun v39 h =>
 GuardW (wantV v35 true) (fun K40 =>
 RdK (some (slot l1 127)) h K40) h fun v41 h =>
 GuardW (wantV v35 true) (fun K42 =>
 RdK (binB none Try.prog .sub 3 true false v41 (Value.int .i64 (1)) h fun v _ => some v) h K42) h fun v43 h =>
 GuardW (wantV v35 true) (fun K44 =>
 RdK (indexAddrS none 2 v39 v43 h fun v _ => some v) h K44) h fun v45 h =>
 GuardW (wantV v35 true) (fun K46 =>
 RdK (loadA none 2 v45 h fun v _ => some v) h K46) h fun v47 h =>
 GuardW (wantV v35 true) (fun K48 =>
 RdK (some a0) h K48) h fun v49 h =>
 GuardW (wantV v35 true) (fun K50 =>
 RdK (some (slot l16 13)) h K50) h fun v51 h =>
 GuardW (wantV v35 true) (fun K52 =>
 RdK (indexAddrS none 2 v49 v51 h fun v _ => some v) h K52) h fun v53 h =>
 GuardW (wantV v35 true) (fun K54 =>
 RdK (loadA none 2 v53 h fun v _ => some v) h K54) h fun v55 h =>
 GuardW (wantV v35 true) (fun K56 =>
 CallV Try.prog v37 [v47, v55] h K56) h fun v57 h =>
 GuardW (wantV v35 true) (fun K58 =>
 RdK (binB none Try.prog .lss 3 true false v57 (Value.int .i64 (0)) h fun v _ => some v) h K58) h fun v59 h =>
 GuardW (wantV v35 true) (fun K60 =>
 RdK (unB none .not v59 h fun v _ => some v) h K60) h fun v61 h =>
 RdK (pickB none v35 v61 (Value.bool false) h fun v _ => some v) h fun v62 h =>
 CondW v62 (
 CallW Try.prog 85 [a0, (slot l1 127), (slot l1 140), (slot l16 13), a4] h fun v63 h =>
 N0 [(slot l1 140), (slot l1 127), v2, v2, v2, v3, (slot l1 6), (slot l1 7), (slot l1 8), (slot l1 9), (slot l1 10), (slot l1 27), v5, (slot l1 13), (slot l1 14), (slot l1 15), (slot l1 16), (slot l1 17), (slot l8 0), (slot l8 1), (slot l8 2), (slot l8 3), (slot l8 4), (slot l8 5), (slot l8 6), (slot l8 7), (slot l8 8), (slot l8 9), a0, (slot l1 127), (slot l1 140), a4, v12, v12, v13, v14, (slot l16 0), (slot l16 1), (slot l16 2), (slot l16 3), (slot l16 4), (slot l16 5), (slot l16 6), (slot l16 7), (slot l16 8), (slot l16 9), (slot l16 10), (slot l16 11), (slot l16 12), (slot l16 13), (slot l16 14), (slot l23 0), (slot l23 1), (slot l23 2), (slot l23 3), (slot l23 4), (slot l23 5), (slot l23 6), (slot l23 7), (slot l23 8), (slot l23 9), (slot l23 10), (slot l23 11), (slot l23 12), v33, v34, v35, v37, v39, v41, v43, v45, v47, v49, v51, v53, v55, v57, v59, v61, v62, a0, (slot l1 127), (slot l1 140), (slot l16 13), a4, v63, v63, v63, (slot l1 89), (slot l1 90), (slot l1 91), (slot l1 92), (slot l1 93), (slot l1 94), (slot l1 95), (slot l1 96), (slot l1 97), (slot l1 98), (slot l1 99), (slot l1 100), (slot l1 101), (slot l1 102), (slot l1 103), (slot l1 104), (slot l1 105), (slot l1 106), (slot l1 107), (slot l1 108), (slot l1 109), (slot l1 110), (slot l1 111), (slot l1 112), (slot l1 113), (slot l1 114), (slot l1 115), (slot l1 116), (slot l1 117), (slot l1 118), (slot l1 119), (slot l1 120), (slot l1 121), (slot l1 122), (slot l1 123), (slot l1 124), (slot l1 125), (slot l1 126), v63, (slot l1 128), (slot l1 129), (slot l1 130), (slot l1 131), (slot l1 132), (slot l1 133), (slot l1 134), (slot l1 135), (slot l1 136), (slot l1 137), (slot l1 138), (slot l1 139), (slot l1 140)] h) (
 rs_73_0 a0 l1 l16 a4 v2 l8 N0 v3 v5 v12 v13 v14 l23 v33 v34 v35 v37 v39 v41 v43 v45 v47 v49 v51 v53 v55 v57 v59 v61 v62 h)

noncomputable def rs_73_3 (v14 : Value) (a0 : Value) (l1 : List Value) (a4 : Value) (v13 : Value) (N15 : List Value → Heap → Prop) (h : Heap) : Prop :=
 binB False Try.prog .eql 137 true false v14 (Value.int .i64 (2)) h fun v17 h =>
 CondW v17 (
 CallW Try.prog 83 [a0, (slot l1 127), (slot l1 140), a4] h fun v18 h =>
 binB False Try.prog .sub 3 true false (slot l1 140) (Value.int .i64 (1)) h fun v19 h =>
 binB False Try.prog .sub 3 false false v13 (slot l1 127) h fun v20 h =>
 binB False Try.prog .sub 3 false false v19 v20 h fun v21 h =>
 N15 [v14, v17, a0, (slot l1 127), (slot l1 140), a4, v18, (slot l1 140), v19, v13, (slot l1 127), v20, v21, v21, (Value.int .i64 (1))] h) (
 N15 [v14, v17, (slot l1 38), (slot l1 39), (slot l1 40), (slot l1 41), (slot l1 42), (slot l1 43), (slot l1 44), (slot l1 45), (slot l1 46), (slot l1 47), (slot l1 48), v13, v14] h)

noncomputable def rs_73_4 (a0 : Value) (l1 : List Value) (a4 : Value) (N0 : List Value → Heap → Prop) (v2 : Value) (v3 : Value) (v5 : Value) (l8 : List Value) (h : Heap) (κ : Value → Heap → Prop) : Prop :=
 CallW Try.prog 82 [a0, (slot l1 127), (slot l1 140), a4] h fun v12 h =>
 extractB False 0 v12 h fun v13 h =>
 extractB False 1 v12 h fun v14 h =>
 JoinR (fun N15 =>
 rs_73_3 v14 a0 l1 a4 v13 N15 h) fun l16 h =>
 JoinR (fun N22 =>
 rs_73_1 l1 l16 a0 a4 N22 h κ) fun l23 h =>
 rs_73_2 l1 a4 a0 l16 N0 v2 v3 v5 l8 v12 v13 v14 l23 h

noncomputable def rs_73_5 (l1 : List Value) (a0 : Value) (a4 : Value) (N0 : List Value → Heap → Prop) (v2 : Value) (v3 : Value) (v5 : Value) (h : Heap) (κ : Value → Heap → Prop) : Prop :=
 JoinR (fun N7 =>
 unB False .not (slot l1 131) h fun v9 h =>
 CondW v9 (
 CallW Try.prog 81 [a0, (slot l1 127), (slot l1 140), a4] h fun v10 h =>
 binB False Try.prog .sub 3 true false (slot l1 27) (Value.int .i64 (1)) h fun v11 h =>
 N7 [(slot l1 131), v9, a0, (slot l1 127), (slot l1 140), a4, v10, (slot l1 27), v11, v11] h) (
 N7 [(slot l1 131), v9, (slot l1 20), (slot l1 21), (slot l1 22), (slot l1 23), (slot l1 24), (slot l1 25), (slot l1 26), (slot l1 27)] h)) fun l8 h =>
 rs_73_4 a0 l1 a4 N0 v2 v3 v5 l8 h κ

noncomputable def rs_73_6 (l1 : List Value) (a0 : Value) (a4 : Value) (N0 : List Value → Heap → Prop) (h : Heap) (κ : Value → Heap → Prop) : Prop :=
 binB False Try.prog .sub 3 false false (slot l1 140) (slot l1 127) h fun v2 h =>
 binB False Try.prog .leq 3 true false v2 (Value.int .i64 (12)) h fun v3 h =>
 CondW v3 (
 CallW Try.prog 79 [a0, (slot l1 127), (slot l1 140), a4] h fun v4 h =>
 κ (Value.tuple (Array.mk [])) h) (
 binB False Try.prog .eql 3 true false (slot l1 27) (Value.int .i64 (0)) h fun v5 h =>
 CondW v5 (
 CallW Try.prog 80 [a0, (slot l1 127), (slot l1 140), a4] h fun v6 h =>
 κ (Value.tuple (Array.mk [])) h) (
 rs_73_5 l1 a0 a4 N0 v2 v3 v5 h κ))

/-- slices.pdqsortCmpFunc[latchstring/api.Name] -/
theorem rs_73 (a0 a1 a2 a3 a4 : Value) (h : Heap) (κ : Value → Heap → Prop) : BodyW Try.prog 73 [a0, a1, a2, a3, a4] h κ = (
 LoopR [undef, undef, undef, undef, undef, undef, undef, undef, undef, undef, undef, undef, undef, undef, undef, undef, undef, undef, undef, undef, undef, undef, undef, undef, undef, undef, undef, a3, undef, undef, undef, undef, undef, undef, undef, undef, undef, undef, undef, undef, undef, undef, undef, undef, undef, undef, undef, undef, undef, undef, undef, undef, undef, undef, undef, undef, undef, undef, undef, undef, undef, undef, undef, undef, undef, undef, undef, undef, undef, undef, undef, undef, undef, undef, undef, undef, undef, undef, undef, undef, undef, undef, undef, undef, undef, undef, undef, undef, undef, undef, undef, undef, undef, undef, undef, undef, undef, undef, undef, undef, undef, (Value.bool true), undef, undef, undef, undef, undef, undef, undef, undef, undef, undef, undef, undef, undef, undef, undef, undef, undef, undef, undef, undef, undef, undef, undef, undef, undef, a1, undef, undef, undef, (Value.bool true), undef, undef, undef, undef, undef, undef, undef, undef, a2] h fun l1 h N0 =>
 rs_73_6 l1 a0 a4 N0 h κ) := by kernel_rfl

/-- cmp.isNaN[int] -/
theorem rs_75 (a0 : Value) (h : Heap) (κ : Value → Heap → Prop) : BodyW Try.prog 75 [a0] h κ = (
 binB False Try.prog .neq 3 false false a0 a0 h fun v0 h =>
 κ v0 h) := by kernel_rfl

noncomputable def rs_79_0 (a0 : Value) (l5 : List Value) (N4 : List Value → Heap → Prop) (v6 : Value) (v7 : Value) (v8 : Value) (v9 : Value) (v11 : Value) (v13 : Value) (v15 : Value) (v17 : Value) (v19 : Value) (v21 : Value) (v23 : Value) (v25 : Value) (v27 : Value) (v29 : Value) (v31 : Value) (v33 : Value) (v34 : Value) (h : Heap) : Prop :=
 RdK (some a0) h fun v35 h =>
 RdK (some (slot l5 35)) h fun v36 h =>
 RdK (some a0) h fun v37 h =>
 RdK (some (slot l5 35)) h fun v38 h =>
 RdK (binB none Try.prog .sub 3 true false v38 (Value.int .i64 (1)) h fun v _ => some v) h fun v39 h =>
 RdK (some a0) h fun v40 h =>
 RdK (some (slot l5 35)) h fun v41 h =>
 RdK (binB none Try.prog .sub 3 true false v41 (Value.int .i64 (1)) h fun v _ => some v) h fun v42 h =>
 RdK (indexAddrS none 2 v40 v42 h fun v _ => some v) h fun v43 h =>
 RdK (loadA none 2 v43 h fun v _ => some v) h fun v44 h =>
 RdK (some a0) h fun v45 h =>
 RdK (some (slot l5 35)) h fun v46 h =>
 RdK (indexAddrS none 2 v45 v46 h fun v _ => some v) h fun v47 h =>
 RdK (loadA none 2 v47 h fun v _ => some v) h fun v48 h =>
 RdK (indexAddrS none 2 v35 v36 h fun v _ => some v) h fun v49 h =>
 storeV False 2 v49 v44 h fun v50 h =>
 SameK ((reV (some a0) v37) && ((reV (some (slot l5 35)) v38) && ((reV (binB none Try.prog .sub 3 true false v38 (Value.int .i64 (1)) h fun v _ => some v) v39) && true))) (RdK (indexAddrS none 2 v37 v39 h fun v _ => some v) h fun v51 h =>
 storeV False 2 v51 v48 h fun v52 h =>
 binB False Try.prog .sub 3 true false (slot l5 35) (Value.int .i64 (1)) h fun v53 h =>
 N4 [v6, v7, v8, v9, v11, v13, v15, v17, v19, v21, v23, v25, v27, v29, v31, v33, v34, v35, v36, v37, v38, v39, v40, v41, v42, v43, v44, v45, v46, v47, v48, v49, v51, (slot l5 35), v53, v53] h)

noncomputable def rs_79_1 (l5 : List Value) (a1 : Value) (a3 : Value) (a0 : Value) (N4 : List Value → Heap → Prop) (l2 : List Value) (N1 : List Value → Heap → Prop) (a2 : Value) (v3 : Value) (h : Heap) : Prop :=
 RdK (some (slot l5 35)) h fun v6 h =>
 RdK (some a1) h fun v7 h =>
 RdK (binB none Try.prog .gtr 3 false false v6 v7 h fun v _ => some v) h fun v8 h =>
 RdK (some v8) h fun v9 h =>
 GuardW (wantV v9 true) (fun K10 =>
 RdK (some a3) h K10) h fun v11 h =>
 GuardW (wantV v9 true) (fun K12 =>
 RdK (some a0) h K12) h fun v13 h =>
 GuardW (wantV v9 true) (fun K14 =>
 RdK (some (slot l5 35)) h K14) h fun v15 h =>
 GuardW (wantV v9 true) (fun K16 =>
 RdK (indexAddrS none 2 v13 v15 h fun v _ => some v) h K16) h fun v17 h =>
 GuardW (wantV v9 true) (fun K18 =>
 RdK (loadA none 2 v17 h fun v _ => some v) h K18) h fun v19 h =>
 GuardW (wantV v9 true) (fun K20 =>
 RdK (some a0) h K20) h fun v21 h =>
 GuardW (wantV v9 true) (fun K22 =>
 RdK (some (slot l5 35)) h K22) h fun v23 h =>
 GuardW (wantV v9 true) (fun K24 =>
 RdK (binB none Try.prog .sub 3 true false v23 (Value.int .i64 (1)) h fun v _ => some v) h K24) h fun v25 h =>
 GuardW (wantV v9 true) (fun K26 =>
 RdK (indexAddrS none 2 v21 v25 h fun v _ => some v) h K26) h fun v27 h =>
 GuardW (wantV v9 true) (fun K28 =>
 RdK (loadA none 2 v27 h fun v _ => some v) h K28) h fun v29 h =>
 GuardW (wantV v9 true) (fun K30 =>
 CallV Try.prog v11 [v19, v29] h K30) h fun v31 h =>
 GuardW (wantV v9 true) (fun K32 =>
 RdK (binB none Try.prog .lss 3 true false v31 (Value.int .i64 (0)) h fun v _ => some v) h K32) h fun v33 h =>
 RdK (pickB none v9 v33 (Value.bool false) h fun v _ => some v) h fun v34 h =>
 CondW v34 (
 rs_79_0 a0 l5 N4 v6 v7 v8 v9 v11 v13 v15 v17 v19 v21 v23 v25 v27 v29 v31 v33 v34 h) (
 binB False Try.prog .add 3 true false (slot l2 42) (Value.int .i64 (1)) h fun v54 h =>
 N1 [(slot l2 42), a2, v3, (slot l2 42), v6, v7, v8, v9, v11, v13, v15, v17, v19, v21, v23, v25, v27, v29, v31, v33, v34, (slot l5 17), (slot l5 18), (slot l5 19), (slot l5 20), (slot l5 21), (slot l5 22), (slot l5 23), (slot l5 24), (slot l5 25), (slot l5 26), (slot l5 27), (slot l5 28), (slot l5 29), (slot l5 30), (slot l5 31), (slot l5 32), (slot l5 33), (slot l5 34), (slot l5 35), (slot l2 42), v54, v54] h)

/-- slices.insertionSortCmpFunc[latchstring/api.Name] -/
theorem rs_79 (a0 a1 a2 a3 : Value) (h : Heap) (κ : Value → Heap → Prop) : BodyW Try.prog 79 [a0, a1, a2, a3] h κ = (
 binB False Try.prog .add 3 true false a1 (Value.int .i64 (1)) h fun v0 h =>
 LoopR [undef, undef, undef, undef, undef, undef, undef, undef, undef, undef, undef, undef, undef, undef, undef, undef, undef, undef, undef, undef, undef, undef, undef, undef, undef, undef, undef, undef, undef, undef, undef, undef, undef, undef, undef, undef, undef, undef, undef, undef, undef, undef, v0] h fun l2 h N1 =>
 binB False Try.prog .lss 3 false false (slot l2 42) a2 h fun v3 h =>
 CondW v3 (
 LoopR [(slot l2 4), (slot l2 5), (slot l2 6), (slot l2 7), (slot l2 8), (slot l2 9), (slot l2 10), (slot l2 11), (slot l2 12), (slot l2 13), (slot l2 14), (slot l2 15), (slot l2 16), (slot l2 17), (slot l2 18), (slot l2 19), (slot l2 20), (slot l2 21), (slot l2 22), (slot l2 23), (slot l2 24), (slot l2 25), (slot l2 26), (slot l2 27), (slot l2 28), (slot l2 29), (slot l2 30), (slot l2 31), (slot l2 32), (slot l2 33), (slot l2 34), (slot l2 35), (slot l2 36), (slot l2 37), (slot l2 38), (slot l2 42)] h fun l5 h N4 =>
 rs_79_1 l5 a1 a3 a0 N4 l2 N1 a2 v3 h) (
 κ (Value.tuple (Array.mk [])) h)) := by kernel_rfl

/-- (*latchstring/bucket.Bucket).Len -/
theorem rs_111 (a0 : Value) (h : Heap) (κ : Value → Heap → Prop) : BodyW Try.prog 111 [a0] h κ = (
 binB False Try.prog .eql 24 true false a0 (Value.pointer none) h fun v0 h =>
 CondW v0 (
 κ (Value.int .i64 (0)) h) (
 nilB False a0 h fun v1 h =>
 fieldAddrB False 2 v1 h fun v2 h =>
 load1 False v2 h fun v3 h =>
 lenMap False v3 h fun v4 h =>
 κ v4 h)) := by kernel_rfl

/-- (sort.IntSlice).Less -/
theorem rs_113 (a0 a1 a2 : Value) (h : Heap) (κ : Value → Heap → Prop) : BodyW Try.prog 113 [a0, a1, a2] h κ = (
 RdK (some a0) h fun v0 h =>
 RdK (some a1) h fun v1 h =>
 RdK (indexAddrS none 1 v0 v1 h fun v _ => some v) h fun v2 h =>
 RdK (load1 none v2 h fun v _ => some v) h fun v3 h =>
 RdK (some a0) h fun v4 h =>
 RdK (some a2) h fun v5 h =>
 RdK (indexAddrS none 1 v4 v5 h fun v _ => some v) h fun v6 h =>
 RdK (load1 none v6 h fun v _ => some v) h fun v7 h =>
 RdK (binB none Try.prog .lss 3 false false v3 v7 h fun v _ => some v) h fun v8 h =>
 κ v8 h) := by kernel_rfl

/-- (sort.IntSlice).Swap -/
theorem rs_115 (a0 a1 a2 : Value) (h : Heap) (κ : Value → Heap → Prop) : BodyW Try.prog 115 [a0, a1, a2] h κ = (
 RdK (some a0) h fun v0 h =>
 RdK (some a1) h fun v1 h =>
 RdK (some a0) h fun v2 h =>
 RdK (some a2) h fun v3 h =>
 RdK (some a0) h fun v4 h =>
 RdK (some a2) h fun v5 h =>
 RdK (indexAddrS none 1 v4 v5 h fun v _ => some v) h fun v6 h =>
 RdK (load1 none v6 h fun v _ => some v) h fun v7 h =>
 RdK (some a0) h fun v8 h =>
 RdK (some a1) h fun v9 h =>
 RdK (indexAddrS none 1 v8 v9 h fun v _ => some v) h fun v10 h =>
 RdK (load1 none v10 h fun v _ => some v) h fun v11 h =>
 RdK (indexAddrS none 1 v0 v1 h fun v _ => some v) h fun v12 h =>
 storeV False 1 v12 v7 h fun v13 h =>
 SameK ((reV (some a0) v2) && ((reV (some a2) v3) && true)) (RdK (indexAddrS none 1 v2 v3 h fun v _ => some v) h fun v14 h =>
 storeV False 1 v14 v11 h fun v15 h =>
 κ (Value.tuple (Array.mk [])) h)) := by kernel_rfl

/-- (*latchstring/pool.free).Pop -/
theorem rs_116 (a0 : Value) (h : Heap) (κ : Value → Heap → Prop) : BodyW Try.prog 116 [a0] h κ = (
 nilB False a0 h fun v0 h =>
 fieldAddrB False 0 v0 h fun v1 h =>
 load1 False v1 h fun v2 h =>
 CallW Try.prog 48 [v2] h fun v3 h =>
 binB False Try.prog .sub 3 true false v3 (Value.int .i64 (1)) h fun v4 h =>
 nilB False a0 h fun v5 h =>
 fieldAddrB False 0 v5 h fun v6 h =>
 load1 False v6 h fun v7 h =>
 indexAddrS False 1 v7 v4 h fun v8 h =>
 load1 False v8 h fun v9 h =>
 nilB False a0 h fun v10 h =>
 fieldAddrB False 0 v10 h fun v11 h =>
 load1 False v11 h fun v12 h =>
 sliceB False 3 1 v12 none (some v4) none h fun v13 h =>
 nilB False a0 h fun v14 h =>
 fieldAddrB False 0 v14 h fun v15 h =>
 storeV False 1 v15 v13 h fun v16 h =>
 κ (Value.iface 3 v9) h) := by kernel_rfl

noncomputable def rs_117_0 (a0 : Value) (v1 : Value) (h : Heap) (κ : Value → Heap → Prop) : Prop :=
 nilB False a0 h fun v3 h =>
 fieldAddrB False 0 v3 h fun v4 h =>
 load1 False v4 h fun v5 h =>
 fillB False [(0, 1)] [v1] (repeatL [(Value.int .i64 (0))] 1) fun cs8 => cellsK False cs8 3 false fun o6 => newBlock False o6 h fun b7 h =>
 appendB False 3 1 [(Value.int .i64 (0))] false v5 (sliceTo 1 1 b7) h fun v9 h =>
 nilB False a0 h fun v10 h =>
 fieldAddrB False 0 v10 h fun v11 h =>
 storeV False 1 v11 v9 h fun v12 h =>
 κ (Value.tuple (Array.mk [])) h

/-- (*latchstring/pool.free).Push -/
theorem rs_117 (a0 a1 : Value) (h : Heap) (κ : Value → Heap → Prop) : BodyW Try.prog 117 [a0, a1] h κ = (
 typeAssertB False 3 (Value.int .i64 (0)) true a1 h fun v0 h =>
 extractB False 0 v0 h fun v1 h =>
 extractB False 1 v0 h fun v2 h =>
 CondW v2 (
 rs_117_0 a0 v1 h κ) (
 κ (Value.tuple (Array.mk [])) h)) := by kernel_rfl

end Go.Proofs
