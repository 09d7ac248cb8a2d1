/-
  PROVED HERE: a part of the proof (RZ).
-/
import Derived.Test.YtijmemedhkgplaaGreatDoorV4
import Derived.Test.YtijmemedhkgplaaGreatDoorProg
import Derived.KernelRfl
set_option linter.unusedVariables false
set_option linter.unusedSimpArgs false
set_option maxRecDepth 100000
namespace Go.Proofs
open Go.Vai
open Tryz (prog)
noncomputable section
def MZ (Dj:Nat) (v8 v12:Value) (JZ:List Value) (Uq:List Value→Heap→Prop) (a1 v28 gN v30 v31 v35 h_ v37 jZ v39 v40 ia j0 v44 v49 v51 v53 v54 v55 oc v59 qo v70 rM mh v67 v72 sk v76 v77 v78 v80 v85 v82 v87 J1 v91 QM v93 M0 M1 M3 J3 M4 J4 v105 J_ Ka Dk:Value) (h:Heap) (κ:KQ):Prop :=
 fieldAddrB False 3 (ptrTo Dj) h fun Kb h=>
 load1 False Kb h fun Ur h=>
 CallW prog 27 [v8,Ur] h fun M5 h=>
 au False 0 M5 h fun v117 h=>
 au False 1 M5 h fun YP h=>
 au False 2 M5 h fun Us h=>
 ay False [(.int .i64 0),(.int .i64 0)] 24 false fun ad6 => ai False ad6 h fun Ut h=>
 ay False [(.int .i64 0),(.int .i64 0),(.int .i64 0),(.int .i64 0),(.int .i64 0)] 54 false fun ad7 => ai False ad7 h fun Uu h=>
 aF False 2 (ptrTo Ut) v117 h fun v124 h=>
 aF False 5 (ptrTo Uu) YP h fun ajW h=>
 fieldAddrB False 3 (ptrTo Dj) h fun YQ h=>
 load1 False YQ h fun v127 h=>
 CallW prog 35 [v12,v127] h fun M6 h=>
 au False 0 M6 h fun YR h=>
 au False 1 M6 h fun v130 h=>
 au False 2 M6 h fun v131 h=>
 ay False [(.int .i64 0),(.int .i64 0)] 24 false fun ad8 => ai False ad8 h fun Uv h=>
 ay False [(.int .i64 0),(.int .i64 0),(.int .i64 0),(.int .i64 0),(.int .i64 0)] 54 false fun ad9 => ai False ad9 h fun Uw h=>
 aF False 2 (ptrTo Uv) YR h fun ajX h=>
 aF False 5 (ptrTo Uw) v130 h fun ajY h=>
 fieldAddrB False 1 (ptrTo Dj) h fun v138 h=>
 ax False 2 v138 h fun v139 h=>
 fieldAddrB False 4 (ptrTo Dj) h fun YS h=>
 load1 False YS h fun v141 h=>
 CallW prog 36 [v8,v139,v141] h fun QN h=>
 au False 0 QN h fun v143 h=>
 au False 1 QN h fun Ux h=>
 fieldAddrB False 1 (ptrTo Dj) h fun v145 h=>
 ax False 2 v145 h fun v146 h=>
 fieldAddrB False 4 (ptrTo Dj) h fun YT h=>
 load1 False YT h fun v148 h=>
 CallW prog 37 [v12,v146,v148] h fun QO h=>
 au False 0 QO h fun Uy h=>
 au False 1 QO h fun Uz h=>
 CallW prog 25 [v8] h fun v152 h=>
 au False 0 v152 h fun UA h=>
 au False 1 v152 h fun v154 h=>
 CallW prog 38 [v12] h fun QS h=>
 au False 0 QS h fun UB h=>
 au False 1 QS h fun v157 h=>
 ax False 2 (ptrTo Ut) h fun YU h=>
 ax False 2 (ptrTo Uv) h fun v159 h=>
 av False prog .neq 24 false false YU v159 h fun v160 h=>
 ag (ah v160 false) (fun ad_=>
 ax False 5 (ptrTo Uu) h ad_) h fun v162 h=>
 ag (ah v160 false) (fun aea=>
 ax False 5 (ptrTo Uw) h aea) h fun v164 h=>
 ag (ah v160 false) (fun aeb=>
 av False prog .neq 54 false false v162 v164 h aeb) h fun YV h=>
 bt False v160 (.bool true) YV h fun v167 h=>
 ag (ah v167 false) (fun aec=>
 aec Us h) h fun YW h=>
 ag (ah v167 false) (fun aed=>
 aed v131 h) h fun v171 h=>
 ag (ah v167 false) (fun aee=>
 av False prog .neq 4 false false YW v171 h aee) h fun v173 h=>
 bt False v167 (.bool true) v173 h fun Kc h=>
 ag (ah Kc false) (fun aef=>
 aef v143 h) h fun YX h=>
 ag (ah Kc false) (fun aeg=>
 aeg Uy h) h fun YY h=>
 ag (ah Kc false) (fun aeh=>
 av False prog .neq 3 false false YX YY h aeh) h fun YZ h=>
 bt False Kc (.bool true) YZ h fun Kd h=>
 ag (ah Kd false) (fun aei=>
 aei Ux h) h fun v183 h=>
 ag (ah Kd false) (fun aej=>
 aej Uz h) h fun Y0 h=>
 ag (ah Kd false) (fun aek=>
 av False prog .neq 4 false false v183 Y0 h aek) h fun Y1 h=>
 bt False Kd (.bool true) Y1 h fun Ke h=>
 ag (ah Ke false) (fun ael=>
 ael UA h) h fun Y2 h=>
 ag (ah Ke false) (fun aem=>
 aem UB h) h fun Y3 h=>
 ag (ah Ke false) (fun aen=>
 av False prog .neq 3 false false Y2 Y3 h aen) h fun v194 h=>
 bt False Ke (.bool true) v194 h fun Kf h=>
 ag (ah Kf false) (fun aeo=>
 aeo v154 h) h fun Y4 h=>
 ag (ah Kf false) (fun aep=>
 aep v157 h) h fun Y5 h=>
 ag (ah Kf false) (fun aeq=>
 av False prog .neq 3 false false Y4 Y5 h aeq) h fun v201 h=>
 bt False Kf (.bool true) v201 h fun Y6 h=>
 aD Y6 (
 κ (.bool false) h) (
 av False prog .add 3 true false (slot JZ 147) (.int .i64 1) h fun v203 h=>
 Uq [(slot JZ 147),a1,v28,gN,a1,(slot JZ 147),v30,v31,(ptrTo Dj),v35,h_,v37,jZ,v39,v40,ia,j0,v44,v49,v51,v53,v54,v55,oc,v59,qo,v70,rM,mh,v67,v72,sk,v76,v77,v78,v80,v85,v82,v87,J1,v91,QM,v93,M0,M1,M3,J3,M4,J4,v105,J_,Ka,Dk,v8,Kb,Ur,M5,M5,v117,YP,Us,(ptrTo Ut),(ptrTo Uu),Us,v12,YQ,v127,M6,M6,YR,v130,v131,(ptrTo Uv),(ptrTo Uw),v131,v8,v138,v139,YS,v141,QN,QN,v143,Ux,v143,Ux,v12,v145,v146,YT,v148,QO,QO,Uy,Uz,Uy,Uz,v8,v152,v152,UA,v154,UA,v154,v12,QS,QS,UB,v157,UB,v157,YU,v159,v160,v160,v162,v164,YV,v167,v167,YW,v171,v173,Kc,Kc,YX,YY,YZ,Kd,Kd,v183,Y0,Y1,Ke,Ke,Y2,Y3,v194,Kf,Kf,Y4,Y5,v201,Y6,(slot JZ 144),(slot JZ 147),v203,v203] h)
def M7 (a1:Value) (JZ:List Value) (v8 v12:Value) (Uq:List Value→Heap→Prop) (v28 gN:Value) (h:Heap) (κ:KQ):Prop :=
 an False 6 a1 (slot JZ 147) h fun v30 h=>
 ax False 6 v30 h fun v31 h=>
 ay False [(.int .i64 0),(.int .i64 0),(.int .i64 0),(.int .i64 0),(.int .i64 0),(.int .i64 0)] 35 false fun o32 => ai False o32 h fun Dj h=>
 aF False 6 (ptrTo Dj) v31 h fun ja h=>
 aI (some v8) h fun v35 h=>
 aI (some v12) h fun h_ h=>
 aI (ax none 6 (ptrTo Dj) h fun v _=>some v) h fun v37 h=>
 CallW prog 29 [v35,h_,v37] h fun jZ h=>
 aI (jJ none .not jZ h fun v _=>some v) h fun v39 h=>
 aI (some v39) h fun v40 h=>
 ag (ah v40 false) (fun Y7=>
 aI (some v8) h Y7) h fun ia h=>
 ag (ah v40 false) (fun UC=>
 aI (some v12) h UC) h fun v44 h=>
 ag (ah v40 false) (fun QT=>
 CallW prog 15 [ia] h fun v46 h=>
 dI ((FJ (ah v40 false) (gM (some v12) v44)) && true) (QT v46 h)) h fun j0 h=>
 ag (ah v40 false) (fun Y8=>
 CallW prog 30 [v44] h Y8) h fun v49 h=>
 ag (ah v40 false) (fun UD=>
 CallW prog 20 [j0,v49] h UD) h fun v51 h=>
 ag (ah v40 false) (fun Y9=>
 aI (jJ none .not v51 h fun v _=>some v) h Y9) h fun v53 h=>
 aI (bt none v40 (.bool true) v53 h fun v _=>some v) h fun v54 h=>
 aI (some v54) h fun v55 h=>
 ag (ah v55 false) (fun UE=>
 aI (some v8) h UE) h fun oc h=>
 ag (ah v55 false) (fun UG=>
 aI (fieldAddrB none 4 (ptrTo Dj) h fun v _=>some v) h UG) h fun v59 h=>
 ag (ah v55 false) (fun UH=>
 aI (load1 none v59 h fun v _=>some v) h UH) h fun qo h=>
 ag (ah v55 false) (fun Y_=>
 aI (some v12) h Y_) h fun rM h=>
 ag (ah v55 false) (fun Za=>
 aI (fieldAddrB none 4 (ptrTo Dj) h fun v _=>some v) h Za) h fun mh h=>
 ag (ah v55 false) (fun K66=>
 aI (load1 none mh h fun v _=>some v) h K66) h fun v67 h=>
 ag (ah v55 false) (fun K68=>
 CallW prog 31 [oc,qo] h fun zn h=>
 dI ((FJ (ah v55 false) (gM (some v12) rM)) && ((FJ (ah v55 false) (gM (fieldAddrB none 4 (ptrTo Dj) h fun v _=>some v) mh)) && ((FJ (ah v55 false) (gM (load1 none mh h fun v _=>some v) v67)) && true))) (K68 zn h)) h fun v70 h=>
 ag (ah v55 false) (fun K71=>
 CallW prog 32 [rM,v67] h K71) h fun v72 h=>
 ag (ah v55 false) (fun K73=>
 CallW prog 19 [v70,v72] h K73) h fun sk h=>
 ag (ah v55 false) (fun K75=>
 aI (jJ none .not sk h fun v _=>some v) h K75) h fun v76 h=>
 aI (bt none v55 (.bool true) v76 h fun v _=>some v) h fun v77 h=>
 aI (some v77) h fun v78 h=>
 ag (ah v78 false) (fun K79=>
 aI (some v8) h K79) h fun v80 h=>
 ag (ah v78 false) (fun K81=>
 aI (some v12) h K81) h fun v82 h=>
 ag (ah v78 false) (fun K83=>
 CallW prog 16 [v80] h fun F4 h=>
 dI ((FJ (ah v78 false) (gM (some v12) v82)) && true) (K83 F4 h)) h fun v85 h=>
 ag (ah v78 false) (fun K86=>
 CallW prog 33 [v82] h K86) h fun v87 h=>
 ag (ah v78 false) (fun K88=>
 CallW prog 19 [v85,v87] h K88) h fun J1 h=>
 ag (ah v78 false) (fun K90=>
 aI (jJ none .not J1 h fun v _=>some v) h K90) h fun v91 h=>
 aI (bt none v78 (.bool true) v91 h fun v _=>some v) h fun QM h=>
 aI (some QM) h fun v93 h=>
 ag (ah v93 false) (fun K94=>
 aI (some v8) h K94) h fun M0 h=>
 ag (ah v93 false) (fun K96=>
 aI (fieldAddrB none 1 (ptrTo Dj) h fun v _=>some v) h K96) h fun M1 h=>
 ag (ah v93 false) (fun K98=>
 aI (ax none 2 M1 h fun v _=>some v) h K98) h fun M3 h=>
 ag (ah v93 false) (fun aet=>
 aI (some v12) h aet) h fun M4 h=>
 ag (ah v93 false) (fun aeu=>
 aI (fieldAddrB none 1 (ptrTo Dj) h fun v _=>some v) h aeu) h fun J4 h=>
 ag (ah v93 false) (fun aev=>
 aI (ax none 2 J4 h fun v _=>some v) h aev) h fun v105 h=>
 ag (ah v93 false) (fun aew=>
 CallW prog 12 [M0,M3] h fun v107 h=>
 dI ((FJ (ah v93 false) (gM (some v12) M4)) && ((FJ (ah v93 false) (gM (fieldAddrB none 1 (ptrTo Dj) h fun v _=>some v) J4)) && ((FJ (ah v93 false) (gM (ax none 2 J4 h fun v _=>some v) v105)) && true))) (aew v107 h)) h fun J3 h=>
 ag (ah v93 false) (fun aex=>
 CallW prog 34 [M4,v105] h aex) h fun J_ h=>
 ag (ah v93 false) (fun aey=>
 aI (av none prog .neq 3 false false J3 J_ h fun v _=>some v) h aey) h fun Ka h=>
 aI (bt none v93 (.bool true) Ka h fun v _=>some v) h fun Dk h=>
 aD Dk (
 κ (.bool false) h) (
 MZ Dj v8 v12 JZ Uq a1 v28 gN v30 v31 v35 h_ v37 jZ v39 v40 ia j0 v44 v49 v51 v53 v54 v55 oc v59 qo v70 rM mh v67 v72 sk v76 v77 v78 v80 v85 v82 v87 J1 v91 QM v93 M0 M1 M3 J3 M4 J4 v105 J_ Ka Dk h κ)
def F5 (a1:Value) (JZ:List Value) (v8 v12:Value) (Uq:List Value→Heap→Prop) (b1:Nat) (h:Heap) (κ:KQ):Prop :=
 bh False a1 h fun v28 h=>
 av False prog .lss 3 false false (slot JZ 147) v28 h fun gN h=>
 aD gN (
 M7 a1 JZ v8 v12 Uq v28 gN h κ) (
 aI (some v8) h fun aez h=>
 aI (ax none 4 (ptrTo b1) h fun v _=>some v) h fun Zb h=>
 CallW prog 39 [aez] h fun v206 h=>
 dI ((gM (ax none 4 (ptrTo b1) h fun v _=>some v) Zb) && true) (aI (av none prog .eql 29 false false v206 Zb h fun v _=>some v) h fun aeA h=>
 κ aeA h))
def M8 (v9 bI v8:Value) (h:Heap) (κ:KQ):Prop :=
 av False prog .eql 26 false false v9 bI h fun v20 h=>
 ag (ah v20 true) (fun xu=>
 xu v8 h) h fun v22 h=>
 ag (ah v20 true) (fun xw=>
 av False prog .eql 30 true false v22 (.pointer none) h xw) h fun v24 h=>
 bt False v20 v24 (.bool false) h fun v25 h=>
 κ v25 h
def M9 (b1:Nat) (a1:Value) (h:Heap) (κ:KQ):Prop :=
 ax False 4 (ptrTo b1) h fun v6 h=>
 CallW prog 10 [v6] h fun v7 h=>
 au False 0 v7 h fun v8 h=>
 au False 1 v7 h fun v9 h=>
 ax False 4 (ptrTo b1) h fun v10 h=>
 CallW prog 28 [v10] h fun v11 h=>
 au False 0 v11 h fun v12 h=>
 au False 1 v11 h fun bI h=>
 av False prog .neq 26 false false v9 bI h fun bJ h=>
 ag (ah bJ false) (fun QU=>
 QU v9 h) h fun v16 h=>
 ag (ah bJ false) (fun M_=>
 av False prog .neq 26 true false v16 (.int .i64 0) h M_) h fun bQ h=>
 bt False bJ (.bool true) bQ h fun v19 h=>
 aD v19 (
 M8 v9 bI v8 h κ) (
 bV [undef,undef,undef,undef,undef,undef,undef,undef,undef,undef,undef,undef,undef,undef,undef,undef,undef,undef,undef,undef,undef,undef,undef,undef,undef,undef,undef,undef,undef,undef,undef,undef,undef,undef,undef,undef,undef,undef,undef,undef,undef,undef,undef,undef,undef,undef,undef,undef,undef,undef,undef,undef,undef,undef,undef,undef,undef,undef,undef,undef,undef,undef,undef,undef,undef,undef,undef,undef,undef,undef,undef,undef,undef,undef,undef,undef,undef,undef,undef,undef,undef,undef,undef,undef,undef,undef,undef,undef,undef,undef,undef,undef,undef,undef,undef,undef,undef,undef,undef,undef,undef,undef,undef,undef,undef,undef,undef,undef,undef,undef,undef,undef,undef,undef,undef,undef,undef,undef,undef,undef,undef,undef,undef,undef,undef,undef,undef,undef,undef,undef,undef,undef,undef,undef,undef,undef,undef,undef,undef,undef,undef,undef,undef,undef,(.bool false),undef,undef,(.int .i64 0)] h fun JZ h Uq=>
 F5 a1 JZ v8 v12 Uq b1 h κ)
theorem aeB (a0 a1:Value) (h:Heap) (κ:KQ):aJ prog 7 [a0,a1] h κ = (
 ay False (Value.cells a0).toList 29 false fun o0 => ai False o0 h fun b1 h=>
 CallW prog 8 [] h fun v2 h=>
 jJ False .not v2 h fun v3 h=>
 aD v3 (
 κ (.bool false) h) (
 bh False a1 h fun v4 h=>
 av False prog .gtr 3 true false v4 (.int .i64 50) h fun v5 h=>
 aD v5 (
 κ (.bool true) h) (
 M9 b1 a1 h κ))) := by kernel_rfl
theorem aeC (a0:Value) (h:Heap) (κ:KQ):aJ prog 9 [a0] h κ = (
 ay False (Value.cells a0).toList 24 false fun o0 => ai False o0 h fun b1 h=>
 ax False 2 (ptrTo b1) h fun v2 h=>
 CallW prog 43 [v2] h fun v3 h=>
 av False prog .lss 3 true false v3 (.int .i64 0) h fun v4 h=>
 aD v4 (
 κ (.int .i64 2) h) (
 κ (.int .i64 0) h)) := by kernel_rfl
def HO (QW:Nat) (v53:Value) (PC:List Value) (PD:List Value→Heap→Prop) (v49 v50 v51 h_ lQ v54 v55:Value) (h:Heap):Prop :=
 bE False (ptrTo QW) h fun qN h=>
 fieldAddrB False 5 qN h fun oc h=>
 load1 False oc h fun v58 h=>
 bC False [(0,1)] [v53] (aY [(.pointer none)] 1) fun aeD => ay False aeD 89 false fun o59 => ai False o59 h fun b60 h=>
 bB False 89 1 [(.pointer none)] false v58 (sliceTo 1 1 b60) h fun sn h=>
 bE False (ptrTo QW) h fun rM h=>
 fieldAddrB False 5 rM h fun v64 h=>
 aF False 1 v64 sn h fun mh h=>
 av False prog .add 3 true false (slot PC 26) (.int .i64 1) h fun v66 h=>
 PD [v49,v50,v51,h_,lQ,lQ,v53,v54,v53,v54,v54,v55,(slot PC 12),(slot PC 13),(slot PC 14),(ptrTo QW),(ptrTo QW),qN,oc,v58,v53,(sliceTo 1 1 b60),sn,rM,v64,v66,v66] h
def Bg (b1:Nat) (h_:Value) (QW:Nat) (PC:List Value) (PD:List Value→Heap→Prop) (v49:Value) (h:Heap) (κ:KQ):Prop :=
 fieldAddrB False 1 (ptrTo b1) h fun v50 h=>
 load1 False v50 h fun v51 h=>
 CallW prog 45 [v51,h_] h fun lQ h=>
 au False 0 lQ h fun v53 h=>
 au False 1 lQ h fun v54 h=>
 av False prog .neq 26 true false v54 (.int .i64 0) h fun v55 h=>
 aD v55 (
 κ (Value.tuple (Array.mk [(.pointer none),v54])) h) (
 HO QW v53 PC PD v49 v50 v51 h_ lQ v54 v55 h)
def HS (b1:Nat) (h_:Value) (h:Heap) (κ:KQ):Prop :=
 ax False 4 (ptrTo b1) h fun v39 h=>
 ai False (.map [] 0) h fun b41 h=>
 bC False [(0,4),(4,1),(6,1)] [v39,h_,(nZ b41)] [(.int .i64 0),(.int .i64 0),(.int .i64 0),(.int .i64 0),(.pointer none),(.slice none 0 0),(Value.map none)] fun aeE=>
 ay False (Value.cells (Value.agg (Array.mk aeE))).toList 88 false fun o43 => ai False o43 h fun QW h=>
 fieldAddrB False 0 (ptrTo b1) h fun v45 h=>
 load1 False v45 h fun v46 h=>
 bV [undef,undef,undef,undef,undef,undef,undef,undef,undef,undef,undef,undef,undef,(.pointer none),(.int .i64 0),undef,undef,undef,undef,undef,undef,undef,undef,undef,undef,undef,(.int .i64 0)] h fun PC h PD=>
 av False prog .lss 3 false false (slot PC 26) v46 h fun v49 h=>
 aD v49 (
 Bg b1 h_ QW PC PD v49 h κ) (
 κ (Value.tuple (Array.mk [(ptrTo QW),(.int .i64 0)])) h)
def HT (b1:Nat) (h:Heap) (κ:KQ):Prop :=
 fieldAddrB False 2 (ptrTo b1) h fun v33 h=>
 load1 False v33 h fun ja h=>
 CallW prog 44 [ja] h fun v35 h=>
 au False 0 v35 h fun h_ h=>
 au False 1 v35 h fun v37 h=>
 av False prog .neq 26 true false v37 (.int .i64 0) h fun jZ h=>
 aD jZ (
 κ (Value.tuple (Array.mk [(.pointer none),v37])) h) (
 HS b1 h_ h κ)
theorem Zc (a0:Value) (h:Heap) (κ:KQ):aJ prog 10 [a0] h κ = (
 ay False (Value.cells a0).toList 29 false fun o0 => ai False o0 h fun b1 h=>
 fieldAddrB False 0 (ptrTo b1) h fun v2 h=>
 load1 False v2 h fun v3 h=>
 av False prog .lss 3 true false v3 (.int .i64 1) h fun v4 h=>
 ag (ah v4 false) (fun K5=>
 fieldAddrB False 0 (ptrTo b1) h K5) h fun v6 h=>
 ag (ah v4 false) (fun K7=>
 load1 False v6 h K7) h fun v8 h=>
 ag (ah v4 false) (fun K9=>
 av False prog .gtr 3 true false v8 (.int .i64 16) h K9) h fun v10 h=>
 bt False v4 (.bool true) v10 h fun v11 h=>
 ag (ah v11 false) (fun tU=>
 fieldAddrB False 3 (ptrTo b1) h tU) h fun bI h=>
 ag (ah v11 false) (fun Dl=>
 load1 False bI h Dl) h fun bG h=>
 ag (ah v11 false) (fun F6=>
 av False prog .lss 3 true false bG (.int .i64 0) h F6) h fun v17 h=>
 bt False v11 (.bool true) v17 h fun bQ h=>
 ag (ah bQ false) (fun Dm=>
 fieldAddrB False 3 (ptrTo b1) h Dm) h fun v20 h=>
 ag (ah bQ false) (fun xu=>
 load1 False v20 h xu) h fun v22 h=>
 ag (ah bQ false) (fun xw=>
 av False prog .gtr 3 true false v22 (.int .i64 8) h xw) h fun v24 h=>
 bt False bQ (.bool true) v24 h fun v25 h=>
 ag (ah v25 false) (fun Dn=>
 fieldAddrB False 2 (ptrTo b1) h Dn) h fun v27 h=>
 ag (ah v25 false) (fun F7=>
 load1 False v27 h F7) h fun gN h=>
 ag (ah v25 false) (fun Kg=>
 av False prog .lss 3 true false gN (.int .i64 1) h Kg) h fun v31 h=>
 bt False v25 (.bool true) v31 h fun v32 h=>
 aD v32 (
 κ (Value.tuple (Array.mk [(.pointer none),(.int .i64 2)])) h) (
 HT b1 h κ)) := by kernel_rfl
def sq (v20 a0 bQ v4:Value) (Kh:List Value→Heap→Prop) (h:Heap):Prop :=
 av False prog .eql 26 true false v20 (.int .i64 0) h fun v23 h=>
 aD v23 (
 bE False a0 h fun v24 h=>
 fieldAddrB False 6 v24 h fun v25 h=>
 load1 False v25 h fun v26 h=>
 dU False prog 3 v26 bQ v4 h fun v27 h=>
 Kh [v20,v23,a0,v24,v25,v26,bQ,v4] h) (
 Kh [v20,v23,undef,undef,undef,undef,undef,undef] h)
def HU (a0 v4:Value) (b1:Nat) (a2 a3:Value) (h:Heap) (κ:KQ):Prop :=
 aI (some a0) h fun v6 h=>
 aI (bE none v6 h fun v _=>some v) h fun v7 h=>
 aI (fieldAddrB none 5 v7 h fun v _=>some v) h fun v8 h=>
 aI (load1 none v8 h fun v _=>some v) h fun v9 h=>
 aI (some v4) h fun v10 h=>
 aI (an none 1 v9 v10 h fun v _=>some v) h fun v11 h=>
 aI (load1 none v11 h fun v _=>some v) h fun v12 h=>
 aI (ax none 2 (ptrTo b1) h fun v _=>some v) h fun bI h=>
 aI (some a2) h fun bJ h=>
 aI (some a3) h fun bG h=>
 CallW prog 46 [v12,bI,bJ,bG] h fun v16 h=>
 aI (some v16) h fun v17 h=>
 aI (au none 0 v17 h fun v _=>some v) h fun bQ h=>
 aI (au none 1 v17 h fun v _=>some v) h fun v19 h=>
 aI (au none 2 v17 h fun v _=>some v) h fun v20 h=>
 dI ((gM (au none 1 v17 h fun v _=>some v) v19) && ((gM (au none 2 v17 h fun v _=>some v) v20) && true)) (dI ((gM (au none 2 v17 h fun v _=>some v) v20) && true) (dN (fun Kh=>
 sq v20 a0 bQ v4 Kh h) fun Ki h=>
 κ (Value.tuple (Array.mk [bQ,v19,v20])) h))
theorem Zd (a0 a1 a2 a3:Value) (h:Heap) (κ:KQ):aJ prog 11 [a0,a1,a2,a3] h κ = (
 ay False (Value.cells a1).toList 24 false fun o0 => ai False o0 h fun b1 h=>
 av False prog .eql 30 true false a0 (.pointer none) h fun v2 h=>
 aD v2 (
 κ (Value.tuple (Array.mk [(.int .i64 0),(.bool false),(.int .i64 1)])) h) (
 ax False 2 (ptrTo b1) h fun v3 h=>
 CallW prog 12 [a0,v3] h fun v4 h=>
 av False prog .lss 3 true false v4 (.int .i64 0) h fun v5 h=>
 aD v5 (
 κ (Value.tuple (Array.mk [(.int .i64 0),(.bool false),(.int .i64 2)])) h) (
 HU a0 v4 b1 a2 a3 h κ))) := by kernel_rfl
def HV (b1:Nat) (a0:Value) (h:Heap) (κ:KQ):Prop :=
 aI (ax none 2 (ptrTo b1) h fun v _=>some v) h fun v3 h=>
 aI (some a0) h fun v4 h=>
 aI (bE none v4 h fun v _=>some v) h fun v5 h=>
 aI (fieldAddrB none 0 v5 h fun v _=>some v) h fun v6 h=>
 aI (fieldAddrB none 0 v6 h fun v _=>some v) h fun v7 h=>
 aI (load1 none v7 h fun v _=>some v) h fun v8 h=>
 CallW prog 47 [v3,v8] h fun v9 h=>
 κ v9 h
theorem Ze (a0 a1:Value) (h:Heap) (κ:KQ):aJ prog 12 [a0,a1] h κ = (
 ay False (Value.cells a1).toList 24 false fun o0 => ai False o0 h fun b1 h=>
 av False prog .eql 30 true false a0 (.pointer none) h fun v2 h=>
 aD v2 (
 κ (.int .i64 (-1)) h) (
 HV b1 a0 h κ)) := by kernel_rfl
def Bh (l6:List Value) (v4 v3:Value) (N5:List Value→Heap→Prop) (h:Heap) (κ:KQ):Prop :=
 av False prog .lss 3 false false (slot l6 10) v4 h fun v7 h=>
 aD v7 (
 an False 1 v3 (slot l6 10) h fun v8 h=>
 load1 False v8 h fun v9 h=>
 CallW prog 51 [v9] h fun v10 h=>
 bB False 51 4 [(.int .i64 0),(.int .i64 0),(.slice none 0 0),(.int .i64 0)] false (slot l6 8) v10 h fun v11 h=>
 av False prog .add 3 true false (slot l6 10) (.int .i64 1) h fun v12 h=>
 N5 [v7,v8,v9,v9,(slot l6 8),v9,v10,v11,v11,v12,v12] h) (
 CallW prog 52 [(slot l6 8),(Value.func (.func 53) (Array.mk []) (Array.mk []))] h fun bI h=>
 κ (slot l6 8) h)
theorem Zf (a0:Value) (h:Heap) (κ:KQ):aJ prog 15 [a0] h κ = (
 av False prog .eql 30 true false a0 (.pointer none) h fun v0 h=>
 aD v0 (
 κ (.slice none 0 0) h) (
 bE False a0 h fun v1 h=>
 fieldAddrB False 5 v1 h fun v2 h=>
 load1 False v2 h fun v3 h=>
 bh False v3 h fun v4 h=>
 bV [undef,undef,undef,undef,undef,undef,undef,undef,(.slice none 0 0),undef,(.int .i64 0)] h fun l6 h N5=>
 Bh l6 v4 v3 N5 h κ)) := by kernel_rfl
def HW (LD b8:Nat) (ct:List Value) (XM:List Value→Heap→Prop) (bQ v19 v23 v24 v25:Value) (h:Heap):Prop :=
 fieldAddrB False 1 (ptrTo LD) h fun v26 h=>
 load1 False v26 h fun v27 h=>
 fieldAddrB False 0 (ptrTo b8) h fun v28 h=>
 ax False 2 v28 h fun gN h=>
 fieldAddrB False 2 (ptrTo LD) h fun v30 h=>
 load1 False v30 h fun v31 h=>
 bC False [(0,1),(1,2),(3,1)] [v27,gN,v31] [(.int .i64 0),(.int .i64 0),(.int .i64 0),(.int .i64 0)] fun Zg=>
 bC False [(0,4)] [(Value.agg (Array.mk Zg))] (aY [(.int .i64 0),(.int .i64 0),(.int .i64 0),(.int .i64 0)] 1) fun UI => ay False UI 57 false fun o33 => ai False o33 h fun b34 h=>
 bB False 57 4 [(.int .i64 0),(.int .i64 0),(.int .i64 0),(.int .i64 0)] false (slot ct 17) (sliceTo 1 1 b34) h fun h_ h=>
 XM [bQ,v19,(ptrTo LD),v23,v24,v25,(slot ct 17),v26,v27,v28,gN,v30,v31,(Value.agg (Array.mk Zg)),(sliceTo 1 1 b34),h_,h_] h
def HX (v11:Value) (ct:List Value) (b8:Nat) (XM:List Value→Heap→Prop) (h:Heap):Prop :=
 an False 5 v11 (slot ct 19) h fun bQ h=>
 ax False 5 bQ h fun v19 h=>
 ay False [(.int .i64 0),(.int .i64 0),(.int .i64 0),(.int .i64 0),(.int .i64 0)] 54 false fun o20 => ai False o20 h fun LD h=>
 aF False 5 (ptrTo LD) v19 h fun v22 h=>
 fieldAddrB False 2 (ptrTo LD) h fun v23 h=>
 load1 False v23 h fun v24 h=>
 av False prog .neq 33 true false v24 (.int .i64 0) h fun v25 h=>
 aD v25 (
 HW LD b8 ct XM bQ v19 v23 v24 v25 h) (
 XM [bQ,v19,(ptrTo LD),v23,v24,v25,(slot ct 7),(slot ct 8),(slot ct 9),(slot ct 10),(slot ct 11),(slot ct 12),(slot ct 13),(slot ct 14),(slot ct 15),(slot ct 16),(slot ct 17)] h)
def Bi (ct:List Value) (v12 v11:Value) (b8:Nat) (xx:List Value→Heap→Prop) (l3:List Value) (N2:List Value→Heap→Prop) (v4 v5 v6 v10:Value) (h:Heap):Prop :=
 av False prog .lss 3 false false (slot ct 19) v12 h fun bG h=>
 aD bG (
 dN (fun XM=>
 HX v11 ct b8 XM h) fun Cj h=>
 av False prog .add 3 true false (slot ct 19) (.int .i64 1) h fun v37 h=>
 xx [bG,(slot Cj 0),(slot Cj 1),(slot Cj 2),(slot Cj 3),(slot Cj 4),(slot Cj 5),(slot Cj 6),(slot Cj 7),(slot Cj 8),(slot Cj 9),(slot Cj 10),(slot Cj 11),(slot Cj 12),(slot Cj 13),(slot Cj 14),(slot Cj 15),(slot Cj 16),v37,v37] h) (
 av False prog .add 3 true false (slot l3 28) (.int .i64 1) h fun jZ h=>
 N2 [v4,v5,v6,(ptrTo b8),v10,v11,v12,bG,(slot ct 1),(slot ct 2),(slot ct 3),(slot ct 4),(slot ct 5),(slot ct 6),(slot ct 7),(slot ct 8),(slot ct 9),(slot ct 10),(slot ct 11),(slot ct 12),(slot ct 13),(slot ct 14),(slot ct 15),(slot ct 16),(slot ct 17),(slot ct 18),(slot ct 19),jZ,jZ] h)
def HY (v0:Value) (l3:List Value) (N2:List Value→Heap→Prop) (v4:Value) (h:Heap):Prop :=
 an False 4 v0 (slot l3 28) h fun v5 h=>
 ax False 4 v5 h fun v6 h=>
 ay False [(.int .i64 0),(.int .i64 0),(.slice none 0 0),(.int .i64 0)] 51 false fun o7 => ai False o7 h fun b8 h=>
 aF False 4 (ptrTo b8) v6 h fun v9 h=>
 fieldAddrB False 2 (ptrTo b8) h fun v10 h=>
 load1 False v10 h fun v11 h=>
 bh False v11 h fun v12 h=>
 bV [(slot l3 7),(slot l3 8),(slot l3 9),(slot l3 10),(slot l3 11),(slot l3 12),(slot l3 13),(slot l3 14),(slot l3 15),(slot l3 16),(slot l3 17),(slot l3 18),(slot l3 19),(slot l3 20),(slot l3 21),(slot l3 22),(slot l3 23),(slot l3 24),(slot l3 25),(.int .i64 0)] h fun ct h xx=>
 Bi ct v12 v11 b8 xx l3 N2 v4 v5 v6 v10 h
theorem Zh (a0:Value) (h:Heap) (κ:KQ):aJ prog 16 [a0] h κ = (
 CallW prog 15 [a0] h fun v0 h=>
 bh False v0 h fun v1 h=>
 bV [undef,undef,undef,undef,undef,undef,undef,undef,undef,undef,undef,undef,undef,undef,undef,undef,undef,undef,undef,undef,undef,undef,undef,undef,(.slice none 0 0),undef,undef,undef,(.int .i64 0)] h fun l3 h N2=>
 av False prog .lss 3 false false (slot l3 28) v1 h fun v4 h=>
 aD v4 (
 HY v0 l3 N2 v4 h) (
 CallW prog 55 [(slot l3 24),(Value.func (.func 56) (Array.mk []) (Array.mk []))] h fun v39 h=>
 κ (slot l3 24) h)) := by kernel_rfl
theorem Zi (a0 a1:Value) (h:Heap) (κ:KQ):aJ prog 17 [a0,a1] h κ = (
 CallW prog 59 [a0,a1] h fun v0 h=>
 av False prog .eql 89 true false v0 (.pointer none) h fun v1 h=>
 aD v1 (
 CallW prog 60 [a0] h fun v2 h=>
 κ (Value.tuple (Array.mk [(.slice none 0 0),v2])) h) (
 CallW prog 61 [v0,a1] h fun v3 h=>
 au False 0 v3 h fun v4 h=>
 au False 1 v3 h fun v5 h=>
 κ (Value.tuple (Array.mk [v4,v5])) h)) := by kernel_rfl
def HZ (a0:Value) (l4:List Value) (a1:Value) (N3:List Value→Heap→Prop) (v5 v6:Value) (h:Heap) (κ:KQ):Prop :=
 aI (some a0) h fun v7 h=>
 aI (some (slot l4 16)) h fun v8 h=>
 aI (an none 5 v7 v8 h fun v _=>some v) h fun v9 h=>
 aI (ax none 5 v9 h fun v _=>some v) h fun v10 h=>
 aI (some a1) h fun v11 h=>
 aI (some (slot l4 16)) h fun v12 h=>
 aI (an none 5 v11 v12 h fun v _=>some v) h fun bI h=>
 aI (ax none 5 bI h fun v _=>some v) h fun bJ h=>
 aI (av none prog .neq 54 false false v10 bJ h fun v _=>some v) h fun bG h=>
 aD bG (
 κ (.bool false) h) (
 av False prog .add 3 true false (slot l4 16) (.int .i64 1) h fun v16 h=>
 N3 [(slot l4 16),a0,v5,v6,v7,v8,v9,v10,v11,v12,bI,bJ,bG,(slot l4 13),(slot l4 16),v16,v16] h)
theorem Zj (a0 a1:Value) (h:Heap) (κ:KQ):aJ prog 18 [a0,a1] h κ = (
 bh False a0 h fun v0 h=>
 bh False a1 h fun v1 h=>
 av False prog .neq 3 false false v0 v1 h fun v2 h=>
 aD v2 (
 κ (.bool false) h) (
 bV [undef,undef,undef,undef,undef,undef,undef,undef,undef,undef,undef,undef,undef,(.bool false),undef,undef,(.int .i64 0)] h fun l4 h N3=>
 bh False a0 h fun v5 h=>
 av False prog .lss 3 false false (slot l4 16) v5 h fun v6 h=>
 aD v6 (
 HZ a0 l4 a1 N3 v5 v6 h κ) (
 κ (.bool true) h))) := by kernel_rfl
def H7 (a0:Value) (l4:List Value) (a1:Value) (N3:List Value→Heap→Prop) (v5 v6:Value) (h:Heap) (κ:KQ):Prop :=
 aI (some a0) h fun v7 h=>
 aI (some (slot l4 16)) h fun v8 h=>
 aI (an none 4 v7 v8 h fun v _=>some v) h fun v9 h=>
 aI (ax none 4 v9 h fun v _=>some v) h fun v10 h=>
 aI (some a1) h fun v11 h=>
 aI (some (slot l4 16)) h fun v12 h=>
 aI (an none 4 v11 v12 h fun v _=>some v) h fun bI h=>
 aI (ax none 4 bI h fun v _=>some v) h fun bJ h=>
 aI (av none prog .neq 57 false false v10 bJ h fun v _=>some v) h fun bG h=>
 aD bG (
 κ (.bool false) h) (
 av False prog .add 3 true false (slot l4 16) (.int .i64 1) h fun v16 h=>
 N3 [(slot l4 16),a0,v5,v6,v7,v8,v9,v10,v11,v12,bI,bJ,bG,(slot l4 13),(slot l4 16),v16,v16] h)
theorem Zk (a0 a1:Value) (h:Heap) (κ:KQ):aJ prog 19 [a0,a1] h κ = (
 bh False a0 h fun v0 h=>
 bh False a1 h fun v1 h=>
 av False prog .neq 3 false false v0 v1 h fun v2 h=>
 aD v2 (
 κ (.bool false) h) (
 bV [undef,undef,undef,undef,undef,undef,undef,undef,undef,undef,undef,undef,undef,(.bool false),undef,undef,(.int .i64 0)] h fun l4 h N3=>
 bh False a0 h fun v5 h=>
 av False prog .lss 3 false false (slot l4 16) v5 h fun v6 h=>
 aD v6 (
 H7 a0 l4 a1 N3 v5 v6 h κ) (
 κ (.bool true) h))) := by kernel_rfl
def H8 (a0:Value) (l4:List Value) (a1:Value) (N3:List Value→Heap→Prop) (v5 v6:Value) (h:Heap) (κ:KQ):Prop :=
 aI (some a0) h fun v7 h=>
 aI (some (slot l4 45)) h fun v8 h=>
 aI (an none 4 v7 v8 h fun v _=>some v) h fun v9 h=>
 aI (fieldAddrB none 0 v9 h fun v _=>some v) h fun v10 h=>
 aI (ax none 2 v10 h fun v _=>some v) h fun v11 h=>
 aI (some a1) h fun v12 h=>
 aI (some (slot l4 45)) h fun bI h=>
 aI (an none 4 v12 bI h fun v _=>some v) h fun bJ h=>
 aI (fieldAddrB none 0 bJ h fun v _=>some v) h fun bG h=>
 aI (ax none 2 bG h fun v _=>some v) h fun v16 h=>
 aI (av none prog .neq 24 false false v11 v16 h fun v _=>some v) h fun v17 h=>
 aI (some v17) h fun bQ h=>
 ag (ah bQ false) (fun Dm=>
 aI (some a0) h Dm) h fun v20 h=>
 ag (ah bQ false) (fun xu=>
 aI (some (slot l4 45)) h xu) h fun v22 h=>
 ag (ah bQ false) (fun xw=>
 aI (an none 4 v20 v22 h fun v _=>some v) h xw) h fun v24 h=>
 ag (ah bQ false) (fun Dp=>
 aI (fieldAddrB none 3 v24 h fun v _=>some v) h Dp) h fun v26 h=>
 ag (ah bQ false) (fun Bj=>
 aI (load1 none v26 h fun v _=>some v) h Bj) h fun v28 h=>
 ag (ah bQ false) (fun Bk=>
 aI (some a1) h Bk) h fun v30 h=>
 ag (ah bQ false) (fun Dq=>
 aI (some (slot l4 45)) h Dq) h fun v32 h=>
 ag (ah bQ false) (fun Kj=>
 aI (an none 4 v30 v32 h fun v _=>some v) h Kj) h fun ja h=>
 ag (ah bQ false) (fun Na=>
 aI (fieldAddrB none 3 ja h fun v _=>some v) h Na) h fun h_ h=>
 ag (ah bQ false) (fun Nb=>
 aI (load1 none h_ h fun v _=>some v) h Nb) h fun jZ h=>
 ag (ah bQ false) (fun QX=>
 aI (av none prog .neq 3 false false v28 jZ h fun v _=>some v) h QX) h fun v40 h=>
 aI (bt none bQ (.bool true) v40 h fun v _=>some v) h fun v41 h=>
 aI (some v41) h fun ia h=>
 ag (ah ia false) (fun UC=>
 aI (some a0) h UC) h fun v44 h=>
 ag (ah ia false) (fun QT=>
 aI (some (slot l4 45)) h QT) h fun v46 h=>
 ag (ah ia false) (fun UJ=>
 aI (an none 4 v44 v46 h fun v _=>some v) h UJ) h fun mN h=>
 ag (ah ia false) (fun UK=>
 aI (fieldAddrB none 2 mN h fun v _=>some v) h UK) h fun v50 h=>
 ag (ah ia false) (fun UL=>
 aI (load1 none v50 h fun v _=>some v) h UL) h fun lQ h=>
 ag (ah ia false) (fun Zl=>
 aI (some a1) h Zl) h fun v54 h=>
 ag (ah ia false) (fun Zm=>
 aI (some (slot l4 45)) h Zm) h fun qN h=>
 ag (ah ia false) (fun Zn=>
 aI (an none 4 v54 qN h fun v _=>some v) h Zn) h fun v58 h=>
 ag (ah ia false) (fun UM=>
 aI (fieldAddrB none 2 v58 h fun v _=>some v) h UM) h fun v60 h=>
 ag (ah ia false) (fun Zo=>
 aI (load1 none v60 h fun v _=>some v) h Zo) h fun sn h=>
 ag (ah ia false) (fun Zp=>
 CallW prog 18 [lQ,sn] h Zp) h fun v64 h=>
 ag (ah ia false) (fun K65=>
 aI (jJ none .not v64 h fun v _=>some v) h K65) h fun v66 h=>
 aI (bt none ia (.bool true) v66 h fun v _=>some v) h fun v67 h=>
 aD v67 (
 κ (.bool false) h) (
 av False prog .add 3 true false (slot l4 45) (.int .i64 1) h fun xy h=>
 N3 [(slot l4 45),a0,v5,v6,v7,v8,v9,v10,v11,v12,bI,bJ,bG,v16,v17,bQ,v20,v22,v24,v26,v28,v30,v32,ja,h_,jZ,v40,v41,ia,v44,v46,mN,v50,lQ,v54,qN,v58,v60,sn,v64,v66,v67,(slot l4 42),(slot l4 45),xy,xy] h)
theorem Zq (a0 a1:Value) (h:Heap) (κ:KQ):aJ prog 20 [a0,a1] h κ = (
 bh False a0 h fun v0 h=>
 bh False a1 h fun v1 h=>
 av False prog .neq 3 false false v0 v1 h fun v2 h=>
 aD v2 (
 κ (.bool false) h) (
 bV [undef,undef,undef,undef,undef,undef,undef,undef,undef,undef,undef,undef,undef,undef,undef,undef,undef,undef,undef,undef,undef,undef,undef,undef,undef,undef,undef,undef,undef,undef,undef,undef,undef,undef,undef,undef,undef,undef,undef,undef,undef,undef,(.bool false),undef,undef,(.int .i64 0)] h fun l4 h N3=>
 bh False a0 h fun v5 h=>
 av False prog .lss 3 false false (slot l4 45) v5 h fun v6 h=>
 aD v6 (
 H8 a0 l4 a1 N3 v5 v6 h κ) (
 κ (.bool true) h))) := by kernel_rfl
def H9 (b7:Nat) (ct:List Value) (nh:List Value) (N9:List Value→Heap→Prop) (v11 v12 bQ v19 v20 v22 v24 v26 v28 v30 v32 ja h_ jZ v40 v41:Value) (h:Heap):Prop :=
 aI (fieldAddrB none 2 (ptrTo b7) h fun v _=>some v) h fun v45 h=>
 aI (load1 none v45 h fun v _=>some v) h fun v46 h=>
 aI (some (slot ct 4)) h fun j0 h=>
 aI (fieldAddrB none 2 (ptrTo b7) h fun v _=>some v) h fun mN h=>
 aI (load1 none mN h fun v _=>some v) h fun v49 h=>
 aI (some (slot ct 4)) h fun v50 h=>
 aI (fieldAddrB none 2 (ptrTo b7) h fun v _=>some v) h fun v51 h=>
 aI (load1 none v51 h fun v _=>some v) h fun lQ h=>
 aI (some (slot ct 4)) h fun v53 h=>
 aI (an none 5 lQ v53 h fun v _=>some v) h fun v54 h=>
 aI (fieldAddrB none 3 v54 h fun v _=>some v) h fun v55 h=>
 aI (load1 none v55 h fun v _=>some v) h fun qN h=>
 aI (an none 5 v46 j0 h fun v _=>some v) h fun oc h=>
 aI (fieldAddrB none 2 oc h fun v _=>some v) h fun v58 h=>
 aF False 1 v58 qN h fun v59 h=>
 dI ((gM (fieldAddrB none 2 (ptrTo b7) h fun v _=>some v) mN) && ((gM (load1 none mN h fun v _=>some v) v49) && ((gM (some (slot ct 4)) v50) && true))) (aI (an none 5 v49 v50 h fun v _=>some v) h fun v60 h=>
 aI (fieldAddrB none 4 v60 h fun v _=>some v) h fun qo h=>
 aF False 1 qo (.int .i64 0) h fun sn h=>
 fieldAddrB False 2 (ptrTo b7) h fun rM h=>
 load1 False rM h fun v64 h=>
 an False 5 v64 (slot ct 4) h fun mh h=>
 fieldAddrB False 0 mh h fun v66 h=>
 load1 False v66 h fun v67 h=>
 bC False [(0,1)] [v67] (aY [(.int .i64 0)] 1) fun aeI => ay False aeI 3 false fun o68 => ai False o68 h fun b69 h=>
 bB False 3 1 [(.int .i64 0)] false (slot nh 49) (sliceTo 1 1 b69) h fun zo h=>
 N9 [v11,v12,(slot ct 0),(slot ct 1),(slot ct 2),(slot ct 3),(slot ct 4),bQ,v19,v20,v22,v24,v26,v28,v30,v32,ja,h_,jZ,v40,v41,(slot nh 21),(slot nh 22),(slot nh 23),v45,v46,j0,mN,v49,v50,v51,lQ,v53,v54,v55,qN,oc,v58,v60,qo,(slot nh 49),rM,v64,(slot ct 4),mh,v66,v67,(sliceTo 1 1 b69),zo,zo] h)
def Bl (ct:List Value) (b7 b3:Nat) (nh:List Value) (N9:List Value→Heap→Prop) (v11 v12:Value) (h:Heap) (κ:KQ):Prop :=
 aI (some (slot ct 4)) h fun bQ h=>
 aI (av none prog .lss 3 true false bQ (.int .i64 0) h fun v _=>some v) h fun v19 h=>
 aI (some v19) h fun v20 h=>
 ag (ah v20 false) (fun xu=>
 aI (ax none 4 (ptrTo b7) h fun v _=>some v) h xu) h fun v22 h=>
 ag (ah v20 false) (fun xw=>
 aI (fieldAddrB none 2 (ptrTo b7) h fun v _=>some v) h xw) h fun v24 h=>
 ag (ah v20 false) (fun Dp=>
 aI (load1 none v24 h fun v _=>some v) h Dp) h fun v26 h=>
 ag (ah v20 false) (fun Bj=>
 aI (some (slot ct 4)) h Bj) h fun v28 h=>
 ag (ah v20 false) (fun Bk=>
 aI (an none 5 v26 v28 h fun v _=>some v) h Bk) h fun v30 h=>
 ag (ah v20 false) (fun Dq=>
 aI (fieldAddrB none 3 v30 h fun v _=>some v) h Dq) h fun v32 h=>
 ag (ah v20 false) (fun Kj=>
 aI (load1 none v32 h fun v _=>some v) h Kj) h fun ja h=>
 ag (ah v20 false) (fun Na=>
 aI (some (slot ct 4)) h Na) h fun h_ h=>
 ag (ah v20 false) (fun Nb=>
 CallW prog 65 [v22,ja,h_] h Nb) h fun jZ h=>
 ag (ah v20 false) (fun QX=>
 aI (jJ none .not jZ h fun v _=>some v) h QX) h fun v40 h=>
 aI (bt none v20 (.bool true) v40 h fun v _=>some v) h fun v41 h=>
 aD v41 (
 ax False 4 (ptrTo b7) h fun ia h=>
 aF False 4 (ptrTo b3) ia h fun j7 h=>
 ax False 4 (ptrTo b3) h fun v44 _ => κ (Value.tuple (Array.mk [v44,(slot nh 49)])) h) (
 H9 b7 ct nh N9 v11 v12 bQ v19 v20 v22 v24 v26 v28 v30 v32 ja h_ jZ v40 v41 h)
def H_ (b7:Nat) (nh:List Value) (b3:Nat) (N9:List Value→Heap→Prop) (h:Heap) (κ:KQ):Prop :=
 ax False 4 (ptrTo b7) h fun v11 h=>
 CallW prog 63 [v11] h fun v12 h=>
 dN (fun xx=>
 av False prog .lss 3 true false v12 (.int .i64 0) h fun bG h=>
 aD bG (
 ax False 4 (ptrTo b7) h fun v16 h=>
 CallW prog 64 [v16] h fun v17 h=>
 xx [v12,bG,v16,v17,v17] h) (
 xx [v12,bG,(slot nh 4),(slot nh 5),v12] h)) fun ct h=>
 Bl ct b7 b3 nh N9 v11 v12 h κ
theorem Zr (a0:Value) (h:Heap) (κ:KQ):aJ prog 21 [a0] h κ = (
 ay False (Value.cells a0).toList 51 false fun o0 => ai False o0 h fun b1 h=>
 ay False [(.int .i64 0),(.int .i64 0),(.slice none 0 0),(.int .i64 0)] 51 false fun o2 => ai False o2 h fun b3 h=>
 ax False 4 (ptrTo b1) h fun v4 h=>
 CallW prog 62 [v4] h fun v5 h=>
 ay False [(.int .i64 0),(.int .i64 0),(.slice none 0 0),(.int .i64 0)] 51 false fun o6 => ai False o6 h fun b7 h=>
 aF False 4 (ptrTo b7) v5 h fun v8 h=>
 bV [undef,undef,undef,undef,undef,undef,undef,undef,undef,undef,undef,undef,undef,undef,undef,undef,undef,undef,undef,undef,undef,undef,undef,(.slice none 0 0),undef,undef,undef,undef,undef,undef,undef,undef,undef,undef,undef,undef,undef,undef,undef,undef,undef,undef,undef,undef,undef,undef,undef,undef,undef,(.slice none 0 0)] h fun nh h N9=>
 H_ b7 nh b3 N9 h κ) := by kernel_rfl
theorem Zs (a0 a1:Value) (h:Heap) (κ:KQ):aJ prog 23 [a0,a1] h κ = (
 ay False (Value.cells a0).toList 24 false fun o0 => ai False o0 h fun b1 h=>
 ay False (Value.cells a1).toList 24 false fun o2 => ai False o2 h fun b3 h=>
 fieldAddrB False 0 (ptrTo b1) h fun v4 h=>
 load1 False v4 h fun v5 h=>
 fieldAddrB False 0 (ptrTo b3) h fun v6 h=>
 load1 False v6 h fun v7 h=>
 av False prog .lss 3 false false v5 v7 h fun v8 h=>
 ag (ah v8 false) (fun K9=>
 fieldAddrB False 0 (ptrTo b1) h K9) h fun v10 h=>
 ag (ah v8 false) (fun K11=>
 load1 False v10 h K11) h fun v12 h=>
 ag (ah v8 false) (fun UN=>
 fieldAddrB False 0 (ptrTo b3) h UN) h fun bJ h=>
 ag (ah v8 false) (fun QU=>
 load1 False bJ h QU) h fun v16 h=>
 ag (ah v8 false) (fun M_=>
 av False prog .eql 3 false false v12 v16 h M_) h fun bQ h=>
 ag (ah v8 false) (fun Dm=>
 Dm bQ h) h fun v20 h=>
 ag (ah v20 true) (fun xu=>
 fieldAddrB False 1 (ptrTo b1) h xu) h fun v22 h=>
 ag (ah v20 true) (fun xw=>
 load1 False v22 h xw) h fun v24 h=>
 ag (ah v20 true) (fun Dp=>
 fieldAddrB False 1 (ptrTo b3) h Dp) h fun v26 h=>
 ag (ah v20 true) (fun Bj=>
 load1 False v26 h Bj) h fun v28 h=>
 ag (ah v20 true) (fun Bk=>
 av False prog .lss 3 false false v24 v28 h Bk) h fun v30 h=>
 ag (ah v8 false) (fun Dq=>
 bt False v20 v30 (.bool false) h Dq) h fun v32 h=>
 bt False v8 (.bool true) v32 h fun v33 h=>
 aD v33 (
 κ (.int .i64 (-1)) h) (
 ax False 2 (ptrTo b1) h fun ja h=>
 ax False 2 (ptrTo b3) h fun v35 h=>
 av False prog .eql 24 false false ja v35 h fun h_ h=>
 aD h_ (
 κ (.int .i64 0) h) (
 κ (.int .i64 1) h))) := by kernel_rfl
def Bm (l6:List Value) (v4 v3:Value) (N5:List Value→Heap→Prop) (a0:Value) (h:Heap) (κ:KQ):Prop :=
 av False prog .lss 3 false false (slot l6 10) v4 h fun v7 h=>
 aD v7 (
 an False 1 v3 (slot l6 10) h fun v8 h=>
 load1 False v8 h fun v9 h=>
 CallW prog 71 [v9] h fun v10 h=>
 av False prog .add 3 false false (slot l6 8) v10 h fun v11 h=>
 av False prog .add 3 true false (slot l6 10) (.int .i64 1) h fun v12 h=>
 N5 [v7,v8,v9,v9,(slot l6 8),v9,v10,v11,v11,v12,v12] h) (
 bE False a0 h fun bI h=>
 fieldAddrB False 4 bI h fun bJ h=>
 load1 False bJ h fun bG h=>
 CallW prog 72 [bG] h fun v16 h=>
 κ (Value.tuple (Array.mk [(slot l6 8),v16])) h)
theorem Zt (a0:Value) (h:Heap) (κ:KQ):aJ prog 25 [a0] h κ = (
 av False prog .eql 30 true false a0 (.pointer none) h fun v0 h=>
 aD v0 (
 κ (Value.tuple (Array.mk [(.int .i64 0),(.int .i64 0)])) h) (
 bE False a0 h fun v1 h=>
 fieldAddrB False 5 v1 h fun v2 h=>
 load1 False v2 h fun v3 h=>
 bh False v3 h fun v4 h=>
 bV [undef,undef,undef,undef,undef,undef,undef,undef,(.int .i64 0),undef,(.int .i64 0)] h fun l6 h N5=>
 Bm l6 v4 v3 N5 a0 h κ)) := by kernel_rfl
def Ia (a0 a1:Value) (h:Heap) (κ:KQ):Prop :=
 av False prog .rem 3 false false a0 a1 h fun v1 h=>
 dN (fun N2=>
 av False prog .lss 3 true false v1 (.int .i64 0) h fun v4 h=>
 aD v4 (
 av False prog .add 3 false false v1 a1 h fun v5 h=>
 N2 [v1,v4,v1,a1,v5,v5] h) (
 N2 [v1,v4,undef,undef,undef,v1] h)) fun l3 h=>
 κ (slot l3 5) h
theorem Zu (a0 a1:Value) (h:Heap) (κ:KQ):aJ prog 26 [a0,a1] h κ = (
 av False prog .lss 3 true false a1 (.int .i64 1) h fun v0 h=>
 aD v0 (
 κ (.int .i64 0) h) (
 Ia a0 a1 h κ)) := by kernel_rfl
theorem Zv (a0 a1:Value) (h:Heap) (κ:KQ):aJ prog 27 [a0,a1] h κ = (
 ay False [(.int .i64 0),(.int .i64 0)] 24 false fun o0 => ai False o0 h fun b1 h=>
 ay False [(.int .i64 0),(.int .i64 0),(.int .i64 0),(.int .i64 0),(.int .i64 0)] 54 false fun o2 => ai False o2 h fun b3 h=>
 CallW prog 59 [a0,a1] h fun v4 h=>
 CallW prog 73 [v4,a1] h fun v5 h=>
 au False 0 v5 h fun v6 h=>
 au False 1 v5 h fun v7 h=>
 au False 2 v5 h fun v8 h=>
 aF False 2 (ptrTo b1) v6 h fun v9 h=>
 aF False 5 (ptrTo b3) v7 h fun v10 h=>
 ax False 2 (ptrTo b1) h fun v11 _ => ax False 5 (ptrTo b3) h fun v12 _ => κ (Value.tuple (Array.mk [v11,v12,v8])) h) := by kernel_rfl
def Ib (b1:Nat) (oc:Value) (UO:Nat) (XN:List Value) (N63:List Value→Heap→Prop) (mh v66 v67:Value) (h:Heap):Prop :=
 fieldAddrB False 1 (ptrTo b1) h fun xy h=>
 load1 False xy h fun zn h=>
 CallW prog 75 [zn,oc] h fun v70 h=>
 au False 0 v70 h fun zo h=>
 au False 1 v70 h fun v72 h=>
 bE False (ptrTo UO) h fun Ic h=>
 fieldAddrB False 4 Ic h fun sk h=>
 load1 False sk h fun v75 h=>
 bC False [(0,1)] [zo] (aY [(.pointer none)] 1) fun aeK => ay False aeK 118 false fun o76 => ai False o76 h fun b77 h=>
 bB False 118 1 [(.pointer none)] false v75 (sliceTo 1 1 b77) h fun v79 h=>
 bE False (ptrTo UO) h fun v80 h=>
 fieldAddrB False 4 v80 h fun Kk h=>
 aF False 1 Kk v79 h fun v82 h=>
 av False prog .add 3 true false (slot XN 25) (.int .i64 1) h fun Kl h=>
 N63 [(slot XN 25),mh,v66,v67,xy,zn,oc,v70,v70,zo,v72,zo,v72,(ptrTo UO),(ptrTo UO),Ic,sk,v75,zo,(sliceTo 1 1 b77),v79,v80,Kk,(slot XN 25),Kl,Kl] h
def Ie (b1:Nat) (h:Heap) (κ:KQ):Prop :=
 fieldAddrB False 2 (ptrTo b1) h fun v54 h=>
 load1 False v54 h fun v55 h=>
 CallW prog 74 [v55] h fun qN h=>
 au False 0 qN h fun oc h=>
 au False 1 qN h fun v58 h=>
 ax False 4 (ptrTo b1) h fun v59 h=>
 bC False [(0,4),(5,1)] [v59,oc] [(.int .i64 0),(.int .i64 0),(.int .i64 0),(.int .i64 0),(.slice none 0 0),(.pointer none)] fun aeL=>
 ay False (Value.cells (Value.agg (Array.mk aeL))).toList 117 false fun o61 => ai False o61 h fun UO h=>
 bV [undef,undef,undef,undef,undef,undef,undef,undef,undef,undef,undef,undef,undef,undef,undef,undef,undef,undef,undef,undef,undef,undef,undef,undef,undef,(.int .i64 0)] h fun XN h N63=>
 fieldAddrB False 0 (ptrTo b1) h fun mh h=>
 load1 False mh h fun v66 h=>
 av False prog .lss 3 false false (slot XN 25) v66 h fun v67 h=>
 aD v67 (
 Ib b1 oc UO XN N63 mh v66 v67 h) (
 κ (Value.tuple (Array.mk [(ptrTo UO),(.int .i64 0)])) h)
theorem Zw (a0:Value) (h:Heap) (κ:KQ):aJ prog 28 [a0] h κ = (
 ay False (Value.cells a0).toList 29 false fun o0 => ai False o0 h fun b1 h=>
 fieldAddrB False 0 (ptrTo b1) h fun v2 h=>
 load1 False v2 h fun v3 h=>
 av False prog .lss 3 true false v3 (.int .i64 1) h fun v4 h=>
 ag (ah v4 false) (fun K5=>
 fieldAddrB False 0 (ptrTo b1) h K5) h fun v6 h=>
 ag (ah v4 false) (fun K7=>
 load1 False v6 h K7) h fun v8 h=>
 ag (ah v4 false) (fun K9=>
 av False prog .gtr 3 true false v8 (.int .i64 16) h K9) h fun v10 h=>
 bt False v4 (.bool true) v10 h fun v11 h=>
 ag (ah v11 false) (fun tU=>
 fieldAddrB False 1 (ptrTo b1) h tU) h fun bI h=>
 ag (ah v11 false) (fun Dl=>
 load1 False bI h Dl) h fun bG h=>
 ag (ah v11 false) (fun F6=>
 av False prog .lss 3 true false bG (.int .i64 1) h F6) h fun v17 h=>
 bt False v11 (.bool true) v17 h fun bQ h=>
 ag (ah bQ false) (fun Dm=>
 fieldAddrB False 1 (ptrTo b1) h Dm) h fun v20 h=>
 ag (ah bQ false) (fun xu=>
 load1 False v20 h xu) h fun v22 h=>
 ag (ah bQ false) (fun xw=>
 av False prog .gtr 3 true false v22 (.int .i64 64) h xw) h fun v24 h=>
 bt False bQ (.bool true) v24 h fun v25 h=>
 ag (ah v25 false) (fun Dn=>
 fieldAddrB False 2 (ptrTo b1) h Dn) h fun v27 h=>
 ag (ah v25 false) (fun F7=>
 load1 False v27 h F7) h fun gN h=>
 ag (ah v25 false) (fun Kg=>
 av False prog .lss 3 true false gN (.int .i64 1) h Kg) h fun v31 h=>
 bt False v25 (.bool true) v31 h fun v32 h=>
 ag (ah v32 false) (fun Kj=>
 fieldAddrB False 2 (ptrTo b1) h Kj) h fun ja h=>
 ag (ah v32 false) (fun Na=>
 load1 False ja h Na) h fun h_ h=>
 ag (ah v32 false) (fun Nb=>
 av False prog .gtr 3 true false h_ (.int .i64 128) h Nb) h fun jZ h=>
 bt False v32 (.bool true) jZ h fun v39 h=>
 ag (ah v39 false) (fun Nc=>
 fieldAddrB False 3 (ptrTo b1) h Nc) h fun v41 h=>
 ag (ah v39 false) (fun Nd=>
 load1 False v41 h Nd) h fun j7 h=>
 ag (ah v39 false) (fun Nf=>
 av False prog .lss 3 true false j7 (.int .i64 0) h Nf) h fun v45 h=>
 bt False v39 (.bool true) v45 h fun v46 h=>
 ag (ah v46 false) (fun UJ=>
 fieldAddrB False 3 (ptrTo b1) h UJ) h fun mN h=>
 ag (ah v46 false) (fun UK=>
 load1 False mN h UK) h fun v50 h=>
 ag (ah v46 false) (fun UL=>
 av False prog .gtr 3 true false v50 (.int .i64 8) h UL) h fun lQ h=>
 bt False v46 (.bool true) lQ h fun v53 h=>
 aD v53 (
 κ (Value.tuple (Array.mk [(.pointer none),(.int .i64 2)])) h) (
 Ie b1 h κ)) := by kernel_rfl
def Ig (a0:Value) (b1:Nat) (a1:Value) (h:Heap) (κ:KQ):Prop :=
 aI (some a0) h fun v67 h=>
 aI (fieldAddrB none 3 (ptrTo b1) h fun v _=>some v) h fun xy h=>
 aI (load1 none xy h fun v _=>some v) h fun zn h=>
 aI (fieldAddrB none 4 (ptrTo b1) h fun v _=>some v) h fun v70 h=>
 aI (load1 none v70 h fun v _=>some v) h fun zo h=>
 aI (some a1) h fun v72 h=>
 aI (fieldAddrB none 3 (ptrTo b1) h fun v _=>some v) h fun Ic h=>
 aI (load1 none Ic h fun v _=>some v) h fun sk h=>
 aI (fieldAddrB none 4 (ptrTo b1) h fun v _=>some v) h fun v75 h=>
 aI (load1 none v75 h fun v _=>some v) h fun v76 h=>
 CallW prog 50 [v67,zn,zo] h fun v77 h=>
 dI ((gM (some a1) v72) && ((gM (fieldAddrB none 3 (ptrTo b1) h fun v _=>some v) Ic) && ((gM (load1 none Ic h fun v _=>some v) sk) && ((gM (fieldAddrB none 4 (ptrTo b1) h fun v _=>some v) v75) && ((gM (load1 none v75 h fun v _=>some v) v76) && true))))) (CallW prog 80 [v72,sk,v76] h fun v78 h=>
 aI (av none prog .eql 26 false false v77 v78 h fun v _=>some v) h fun v79 h=>
 κ v79 h)
def Ih (b1:Nat) (a0 a1:Value) (h:Heap) (κ:KQ):Prop :=
 fieldAddrB False 1 (ptrTo b1) h fun v80 h=>
 ax False 2 v80 h fun Kk h=>
 fieldAddrB False 4 (ptrTo b1) h fun v82 h=>
 load1 False v82 h fun Kl h=>
 fieldAddrB False 5 (ptrTo b1) h fun F4 h=>
 load1 False F4 h fun v85 h=>
 CallW prog 11 [a0,Kk,Kl,v85] h fun Ng h=>
 au False 0 Ng h fun v87 h=>
 au False 1 Ng h fun S8 h=>
 au False 2 Ng h fun J1 h=>
 fieldAddrB False 1 (ptrTo b1) h fun UP h=>
 ax False 2 UP h fun v91 h=>
 fieldAddrB False 4 (ptrTo b1) h fun QM h=>
 load1 False QM h fun v93 h=>
 fieldAddrB False 5 (ptrTo b1) h fun v94 h=>
 load1 False v94 h fun M0 h=>
 CallW prog 81 [a1,v91,v93,M0] h fun QY h=>
 au False 0 QY h fun M1 h=>
 au False 1 QY h fun XP h=>
 au False 2 QY h fun M3 h=>
 av False prog .eql 3 false false v87 M1 h fun Dr h=>
 ag (ah Dr true) (fun aeM=>
 aeM S8 h) h fun aeN h=>
 ag (ah Dr true) (fun aeO=>
 aeO XP h) h fun Nh h=>
 ag (ah Dr true) (fun aeP=>
 av False prog .eql 4 false false aeN Nh h aeP) h fun aeQ h=>
 bt False Dr aeQ (.bool false) h fun v107 h=>
 ag (ah v107 true) (fun aeR=>
 aeR J1 h) h fun v109 h=>
 ag (ah v107 true) (fun aeS=>
 aeS M3 h) h fun UQ h=>
 ag (ah v107 true) (fun aeT=>
 av False prog .eql 26 false false v109 UQ h aeT) h fun Dk h=>
 bt False v107 Dk (.bool false) h fun Kb h=>
 κ Kb h
def Ii (b1:Nat) (a0 a1:Value) (h:Heap) (κ:KQ):Prop :=
 fieldAddrB False 3 (ptrTo b1) h fun mN h=>
 load1 False mN h fun v49 h=>
 CallW prog 49 [a0,v49] h fun v50 h=>
 au False 0 v50 h fun v51 h=>
 au False 1 v50 h fun lQ h=>
 fieldAddrB False 3 (ptrTo b1) h fun v53 h=>
 load1 False v53 h fun v54 h=>
 CallW prog 79 [a1,v54] h fun v55 h=>
 au False 0 v55 h fun qN h=>
 au False 1 v55 h fun oc h=>
 CallW prog 78 [v51,qN] h fun v58 h=>
 ag (ah v58 true) (fun UM=>
 UM lQ h) h fun v60 h=>
 ag (ah v58 true) (fun Zo=>
 Zo oc h) h fun sn h=>
 ag (ah v58 true) (fun Zp=>
 av False prog .eql 26 false false v60 sn h Zp) h fun v64 h=>
 bt False v58 v64 (.bool false) h fun mh h=>
 κ mh h
def Ij (b1:Nat) (a0 a1:Value) (h:Heap) (κ:KQ):Prop :=
 fieldAddrB False 3 (ptrTo b1) h fun gN h=>
 load1 False gN h fun v30 h=>
 CallW prog 17 [a0,v30] h fun v31 h=>
 au False 0 v31 h fun v32 h=>
 au False 1 v31 h fun v33 h=>
 fieldAddrB False 3 (ptrTo b1) h fun ja h=>
 load1 False ja h fun v35 h=>
 CallW prog 77 [a1,v35] h fun h_ h=>
 au False 0 h_ h fun v37 h=>
 au False 1 h_ h fun jZ h=>
 CallW prog 78 [v32,v37] h fun v39 h=>
 ag (ah v39 true) (fun Nc=>
 Nc v33 h) h fun v41 h=>
 ag (ah v39 true) (fun Nd=>
 Nd jZ h) h fun j7 h=>
 ag (ah v39 true) (fun Nf=>
 av False prog .eql 26 false false v41 j7 h Nf) h fun v45 h=>
 bt False v39 v45 (.bool false) h fun v46 h=>
 κ v46 h
def vL (v4:Value) (b1:Nat) (a0 a1:Value) (h:Heap) (κ:KQ):Prop :=
 av False prog .eql 3 true false v4 (.int .i64 4) h fun j0 h=>
 aD j0 (
 Ii b1 a0 a1 h κ) (
 av False prog .eql 3 true false v4 (.int .i64 5) h fun v66 h=>
 aD v66 (
 Ig a0 b1 a1 h κ) (
 Ih b1 a0 a1 h κ))
def Ik (b1:Nat) (a0 a1:Value) (h:Heap) (κ:KQ):Prop :=
 fieldAddrB False 3 (ptrTo b1) h fun v6 h=>
 load1 False v6 h fun v7 h=>
 fieldAddrB False 5 (ptrTo b1) h fun v8 h=>
 load1 False v8 h fun v9 h=>
 CallW prog 48 [a0,v7,v9] h fun v10 h=>
 au False 0 v10 h fun v11 h=>
 au False 1 v10 h fun v12 h=>
 fieldAddrB False 3 (ptrTo b1) h fun bI h=>
 load1 False bI h fun bJ h=>
 fieldAddrB False 5 (ptrTo b1) h fun bG h=>
 load1 False bG h fun v16 h=>
 CallW prog 76 [a1,bJ,v16] h fun v17 h=>
 au False 0 v17 h fun bQ h=>
 au False 1 v17 h fun v19 h=>
 av False prog .eql 4 false false v11 bQ h fun v20 h=>
 ag (ah v20 true) (fun xu=>
 xu v12 h) h fun v22 h=>
 ag (ah v20 true) (fun xw=>
 xw v19 h) h fun v24 h=>
 ag (ah v20 true) (fun Dp=>
 av False prog .eql 26 false false v22 v24 h Dp) h fun v26 h=>
 bt False v20 v26 (.bool false) h fun v27 h=>
 κ v27 h
theorem Zx (a0 a1 a2:Value) (h:Heap) (κ:KQ):aJ prog 29 [a0,a1,a2] h κ = (
 ay False (Value.cells a2).toList 35 false fun o0 => ai False o0 h fun b1 h=>
 fieldAddrB False 0 (ptrTo b1) h fun v2 h=>
 load1 False v2 h fun v3 h=>
 CallW prog 26 [v3,(.int .i64 6)] h fun v4 h=>
 av False prog .eql 3 true false v4 (.int .i64 2) h fun v5 h=>
 aD v5 (
 Ik b1 a0 a1 h κ) (
 av False prog .eql 3 true false v4 (.int .i64 3) h fun v28 h=>
 aD v28 (
 Ij b1 a0 a1 h κ) (
 vL v4 b1 a0 a1 h κ))) := by kernel_rfl
def Bn (ct:List Value) (Fe:List Value) (v12:Value) (xx:List Value→Heap→Prop) (bG v16 v19 v20 v21 v22 v23 v25 v27 gN v31 v33 v35 v37 v39 v41 j7 v45 j0 mN:Value) (h:Heap):Prop :=
 bC False [] [] (aY [(.int .i64 0),(.int .i64 0),(.slice none 0 0),(.int .i64 0)] 0) fun aeU => ay False aeU 51 false fun o50 => ai False o50 h fun Ds h=>
 sliceB False 51 4 (slot ct 43) none (some (slot Fe 20)) none h fun v53 h=>
 bB False 51 4 [(.int .i64 0),(.int .i64 0),(.slice none 0 0),(.int .i64 0)] false (sliceTo 0 0 Ds) v53 h fun v54 h=>
 an False 4 v12 (slot ct 46) h fun v55 h=>
 ax False 4 v55 h fun qN h=>
 bC False [(0,4)] [qN] (aY [(.int .i64 0),(.int .i64 0),(.slice none 0 0),(.int .i64 0)] 1) fun aeW => ay False aeW 51 false fun o57 => ai False o57 h fun b58 h=>
 bB False 51 4 [(.int .i64 0),(.int .i64 0),(.slice none 0 0),(.int .i64 0)] false v54 (sliceTo 1 1 b58) h fun v60 h=>
 sliceB False 51 4 (slot ct 43) (some (slot Fe 20)) none none h fun qo h=>
 bB False 51 4 [(.int .i64 0),(.int .i64 0),(.slice none 0 0),(.int .i64 0)] false v60 qo h fun sn h=>
 av False prog .add 3 true false (slot ct 46) (.int .i64 1) h fun rM h=>
 xx [(slot ct 46),v12,bG,v16,v19,v20,v21,v22,v23,v25,v27,gN,v31,v33,v35,v37,v39,v41,j7,v45,j0,mN,(slot Fe 18),(slot Fe 19),(slot Fe 20),(sliceTo 0 0 Ds),(slot ct 43),(slot Fe 20),v53,v54,v54,v12,(slot ct 46),v55,qN,(sliceTo 1 1 b58),v60,v60,v60,(slot ct 43),(slot Fe 20),qo,sn,sn,(slot ct 46),rM,rM] h
def Bo (Fe:List Value) (ct:List Value) (v12:Value) (N17:List Value→Heap→Prop) (xx:List Value→Heap→Prop) (bG v16:Value) (h:Heap):Prop :=
 aI (some (slot Fe 20)) h fun v19 h=>
 aI (some (slot ct 43)) h fun v20 h=>
 aI (bh none v20 h fun v _=>some v) h fun v21 h=>
 aI (av none prog .lss 3 false false v19 v21 h fun v _=>some v) h fun v22 h=>
 aI (some v22) h fun v23 h=>
 ag (ah v23 true) (fun Km=>
 aI (some (slot ct 43)) h Km) h fun v25 h=>
 ag (ah v23 true) (fun Dn=>
 aI (some (slot Fe 20)) h Dn) h fun v27 h=>
 ag (ah v23 true) (fun F7=>
 aI (an none 4 v25 v27 h fun v _=>some v) h F7) h fun gN h=>
 ag (ah v23 true) (fun Kg=>
 aI (fieldAddrB none 0 gN h fun v _=>some v) h Kg) h fun v31 h=>
 ag (ah v23 true) (fun UR=>
 aI (ax none 2 v31 h fun v _=>some v) h UR) h fun v33 h=>
 ag (ah v23 true) (fun Zy=>
 aI (some v12) h Zy) h fun v35 h=>
 ag (ah v23 true) (fun US=>
 aI (some (slot ct 46)) h US) h fun v37 h=>
 ag (ah v23 true) (fun UT=>
 aI (an none 4 v35 v37 h fun v _=>some v) h UT) h fun v39 h=>
 ag (ah v23 true) (fun Nc=>
 aI (fieldAddrB none 0 v39 h fun v _=>some v) h Nc) h fun v41 h=>
 ag (ah v23 true) (fun Nd=>
 aI (ax none 2 v41 h fun v _=>some v) h Nd) h fun j7 h=>
 ag (ah v23 true) (fun Nf=>
 CallW prog 23 [v33,j7] h Nf) h fun v45 h=>
 ag (ah v23 true) (fun Zz=>
 aI (av none prog .lss 3 true false v45 (.int .i64 0) h fun v _=>some v) h Zz) h fun j0 h=>
 aI (bt none v23 j0 (.bool false) h fun v _=>some v) h fun mN h=>
 aD mN (
 av False prog .add 3 true false (slot Fe 20) (.int .i64 1) h fun v49 h=>
 N17 [v19,v20,v21,v22,v23,v25,v27,gN,v31,v33,v35,v37,v39,v41,j7,v45,j0,mN,(slot Fe 20),v49,v49] h) (
 Bn ct Fe v12 xx bG v16 v19 v20 v21 v22 v23 v25 v27 gN v31 v33 v35 v37 v39 v41 j7 v45 j0 mN h)
def Bp (v12:Value) (ct:List Value) (xx:List Value→Heap→Prop) (l1:List Value) (N0:List Value→Heap→Prop) (a0 v2 v3 v4 v5 v6 v7 v8 v9 v10 v11:Value) (h:Heap):Prop :=
 bh False v12 h fun bG h=>
 av False prog .lss 3 false false (slot ct 46) bG h fun v16 h=>
 aD v16 (
 bV [(slot ct 4),(slot ct 5),(slot ct 6),(slot ct 7),(slot ct 8),(slot ct 9),(slot ct 10),(slot ct 11),(slot ct 12),(slot ct 13),(slot ct 14),(slot ct 15),(slot ct 16),(slot ct 17),(slot ct 18),(slot ct 19),(slot ct 20),(slot ct 21),(slot ct 22),(slot ct 23),(.int .i64 0)] h fun Fe h N17=>
 Bo Fe ct v12 N17 xx bG v16 h) (
 av False prog .add 3 true false (slot l1 65) (.int .i64 1) h fun v64 h=>
 N0 [(slot l1 65),a0,v2,v3,v4,v5,v6,a0,v7,v8,v9,(slot l1 65),v10,v11,v12,v12,(slot ct 46),v12,bG,v16,(slot ct 4),(slot ct 5),(slot ct 6),(slot ct 7),(slot ct 8),(slot ct 9),(slot ct 10),(slot ct 11),(slot ct 12),(slot ct 13),(slot ct 14),(slot ct 15),(slot ct 16),(slot ct 17),(slot ct 18),(slot ct 19),(slot ct 20),(slot ct 21),(slot ct 22),(slot ct 23),(slot ct 24),(slot ct 25),(slot ct 26),(slot ct 27),(slot ct 28),(slot ct 29),(slot ct 30),(slot ct 31),(slot ct 32),(slot ct 33),(slot ct 34),(slot ct 35),(slot ct 36),(slot ct 37),(slot ct 38),(slot ct 39),(slot ct 40),(slot ct 41),(slot ct 42),(slot ct 43),(slot ct 44),(slot ct 45),(slot ct 46),(slot l1 65),v64,v64] h)
def Il (a0:Value) (l1:List Value) (N0:List Value→Heap→Prop) (v2 v3 v4 v5 v6:Value) (h:Heap):Prop :=
 bE False a0 h fun v7 h=>
 fieldAddrB False 4 v7 h fun v8 h=>
 load1 False v8 h fun v9 h=>
 an False 1 v9 (slot l1 65) h fun v10 h=>
 load1 False v10 h fun v11 h=>
 CallW prog 82 [v11] h fun v12 h=>
 bV [(slot l1 16),(slot l1 17),(slot l1 18),(slot l1 19),(slot l1 20),(slot l1 21),(slot l1 22),(slot l1 23),(slot l1 24),(slot l1 25),(slot l1 26),(slot l1 27),(slot l1 28),(slot l1 29),(slot l1 30),(slot l1 31),(slot l1 32),(slot l1 33),(slot l1 34),(slot l1 35),(slot l1 36),(slot l1 37),(slot l1 38),(slot l1 39),(slot l1 40),(slot l1 41),(slot l1 42),(slot l1 43),(slot l1 44),(slot l1 45),(slot l1 46),(slot l1 47),(slot l1 48),(slot l1 49),(slot l1 50),(slot l1 51),(slot l1 52),(slot l1 53),(slot l1 54),(slot l1 55),(slot l1 56),(slot l1 57),(slot l1 58),(slot l1 59),(slot l1 60),(slot l1 61),(.int .i64 0)] h fun ct h xx=>
 Bp v12 ct xx l1 N0 a0 v2 v3 v4 v5 v6 v7 v8 v9 v10 v11 h
def Bq (a0:Value) (l1:List Value) (N0:List Value→Heap→Prop) (h:Heap) (κ:KQ):Prop :=
 bE False a0 h fun v2 h=>
 fieldAddrB False 4 v2 h fun v3 h=>
 load1 False v3 h fun v4 h=>
 bh False v4 h fun v5 h=>
 av False prog .lss 3 false false (slot l1 65) v5 h fun v6 h=>
 aD v6 (
 Il a0 l1 N0 v2 v3 v4 v5 v6 h) (
 κ (slot l1 59) h)
theorem ZA (a0:Value) (h:Heap) (κ:KQ):aJ prog 30 [a0] h κ = (
 bV [undef,undef,undef,undef,undef,undef,undef,undef,undef,undef,undef,undef,undef,undef,undef,undef,undef,undef,undef,undef,undef,undef,undef,undef,undef,undef,undef,undef,undef,undef,undef,undef,undef,undef,undef,undef,undef,undef,undef,undef,undef,undef,undef,undef,undef,undef,undef,undef,undef,undef,undef,undef,undef,undef,undef,undef,undef,undef,undef,(.slice none 0 0),undef,undef,undef,undef,undef,(.int .i64 0)] h fun l1 h N0=>
 Bq a0 l1 N0 h κ) := by kernel_rfl
theorem ZB (a0 a1:Value) (h:Heap) (κ:KQ):aJ prog 31 [a0,a1] h κ = (
 ay False (Value.cells a1).toList 3 false fun o0 => ai False o0 h fun b1 h=>
 CallW prog 16 [a0] h fun v2 h=>
 CallW prog 83 [v2,(Value.func (.func 84) (Array.mk []) (Array.mk [(ptrTo b1)]))] h fun v3 h=>
 κ v3 h) := by kernel_rfl
def Im (v0:Value) (l2:List Value) (a1 v9:Value) (N5:List Value→Heap→Prop) (v7 v8 v10:Value) (h:Heap):Prop :=
 an False 4 v0 (slot l2 27) h fun v11 h=>
 fieldAddrB False 0 v11 h fun v12 h=>
 ax False 2 v12 h fun bI h=>
 bC False [(0,1),(1,2),(3,1)] [a1,bI,v9] [(.int .i64 0),(.int .i64 0),(.int .i64 0),(.int .i64 0)] fun ZC=>
 bC False [(0,4)] [(Value.agg (Array.mk ZC))] (aY [(.int .i64 0),(.int .i64 0),(.int .i64 0),(.int .i64 0)] 1) fun Br => ay False Br 57 false fun ZD => ai False ZD h fun S9 h=>
 bB False 57 4 [(.int .i64 0),(.int .i64 0),(.int .i64 0),(.int .i64 0)] false (slot l2 24) (sliceTo 1 1 S9) h fun bQ h=>
 N5 [v0,(slot l2 27),v7,v8,a1,v9,v9,v9,v10,(slot l2 24),a1,v0,(slot l2 27),v11,v12,bI,v9,(Value.agg (Array.mk ZC)),(sliceTo 1 1 S9),bQ,bQ] h
def Io (v0:Value) (l2:List Value) (a1:Value) (N5:List Value→Heap→Prop) (h:Heap):Prop :=
 an False 4 v0 (slot l2 27) h fun v7 h=>
 ax False 4 v7 h fun v8 h=>
 CallW prog 85 [v8,a1] h fun v9 h=>
 av False prog .neq 33 true false v9 (.int .i64 0) h fun v10 h=>
 aD v10 (
 Im v0 l2 a1 v9 N5 v7 v8 v10 h) (
 N5 [v0,(slot l2 27),v7,v8,a1,v9,v9,v9,v10,(slot l2 13),(slot l2 14),(slot l2 15),(slot l2 16),(slot l2 17),(slot l2 18),(slot l2 19),(slot l2 20),(slot l2 21),(slot l2 22),(slot l2 23),(slot l2 24)] h)
def Bs (v0:Value) (l2:List Value) (a1:Value) (N1:List Value→Heap→Prop) (h:Heap) (κ:KQ):Prop :=
 bh False v0 h fun v3 h=>
 av False prog .lss 3 false false (slot l2 27) v3 h fun v4 h=>
 aD v4 (
 dN (fun N5=>
 Io v0 l2 a1 N5 h) fun l6 h=>
 av False prog .add 3 true false (slot l2 27) (.int .i64 1) h fun v19 h=>
 N1 [(slot l2 27),v0,v3,v4,(slot l6 0),(slot l6 1),(slot l6 2),(slot l6 3),(slot l6 4),(slot l6 5),(slot l6 6),(slot l6 7),(slot l6 8),(slot l6 9),(slot l6 10),(slot l6 11),(slot l6 12),(slot l6 13),(slot l6 14),(slot l6 15),(slot l6 16),(slot l6 17),(slot l6 18),(slot l6 19),(slot l6 20),(slot l2 27),v19,v19] h) (
 κ (slot l2 24) h)
theorem ZE (a0 a1:Value) (h:Heap) (κ:KQ):aJ prog 32 [a0,a1] h κ = (
 CallW prog 30 [a0] h fun v0 h=>
 bV [undef,undef,undef,undef,undef,undef,undef,undef,undef,undef,undef,undef,undef,undef,undef,undef,undef,undef,undef,undef,undef,undef,undef,undef,(.slice none 0 0),undef,undef,(.int .i64 0)] h fun l2 h N1=>
 Bs v0 l2 a1 N1 h κ) := by kernel_rfl
def Ip (v0:Value) (l2:List Value) (l6:List Value) (N5:List Value→Heap→Prop) (v7 v8 v9 v10 v11:Value) (h:Heap):Prop :=
 an False 4 v0 (slot l2 29) h fun v12 h=>
 fieldAddrB False 2 v12 h fun bI h=>
 load1 False bI h fun bJ h=>
 an False 5 bJ (slot l6 22) h fun bG h=>
 fieldAddrB False 1 bG h fun v16 h=>
 load1 False v16 h fun v17 h=>
 CallW prog 86 [(slot l6 19),v17] h fun bQ h=>
 av False prog .add 3 true false (slot l6 22) (.int .i64 1) h fun v19 h=>
 N5 [(slot l6 22),v0,(slot l2 29),v7,v8,v9,v10,v11,(slot l6 19),v0,(slot l2 29),v12,bI,bJ,(slot l6 22),bG,v16,v17,bQ,bQ,(slot l6 22),v19,v19] h
def Bt (v0:Value) (l2:List Value) (l6:List Value) (N5:List Value→Heap→Prop) (N1:List Value→Heap→Prop) (v3 v4:Value) (h:Heap):Prop :=
 an False 4 v0 (slot l2 29) h fun v7 h=>
 fieldAddrB False 2 v7 h fun v8 h=>
 load1 False v8 h fun v9 h=>
 bh False v9 h fun v10 h=>
 av False prog .lss 3 false false (slot l6 22) v10 h fun v11 h=>
 aD v11 (
 Ip v0 l2 l6 N5 v7 v8 v9 v10 v11 h) (
 av False prog .add 3 true false (slot l2 29) (.int .i64 1) h fun v20 h=>
 N1 [(slot l2 29),v0,v3,v4,(slot l6 22),v0,(slot l2 29),v7,v8,v9,v10,v11,(slot l6 8),(slot l6 9),(slot l6 10),(slot l6 11),(slot l6 12),(slot l6 13),(slot l6 14),(slot l6 15),(slot l6 16),(slot l6 17),(slot l6 18),(slot l6 19),(slot l6 20),(slot l6 21),(slot l6 22),(slot l2 29),v20,v20] h)
def Bu (l2:List Value) (Ki:List Value) (a0:Value) (Kh:List Value→Heap→Prop) (h:Heap) (κ:KQ):Prop :=
 bh False (slot l2 23) h fun v23 h=>
 av False prog .lss 3 false false (slot Ki 15) v23 h fun v24 h=>
 aD v24 (
 an False 1 (slot l2 23) (slot Ki 15) h fun v25 h=>
 load1 False v25 h fun v26 h=>
 CallW prog 32 [a0,v26] h fun v27 h=>
 bB False 57 4 [(.int .i64 0),(.int .i64 0),(.int .i64 0),(.int .i64 0)] false (slot Ki 12) v27 h fun v28 h=>
 av False prog .add 3 true false (slot Ki 15) (.int .i64 1) h fun gN h=>
 Kh [(slot Ki 15),(slot l2 23),v23,v24,(slot Ki 12),a0,(slot l2 23),(slot Ki 15),v25,v26,v27,v28,v28,(slot Ki 15),gN,gN] h) (
 κ (slot Ki 12) h)
def Bv (v0:Value) (l2:List Value) (N1:List Value→Heap→Prop) (a0:Value) (h:Heap) (κ:KQ):Prop :=
 bh False v0 h fun v3 h=>
 av False prog .lss 3 false false (slot l2 29) v3 h fun v4 h=>
 aD v4 (
 bV [(slot l2 4),(slot l2 5),(slot l2 6),(slot l2 7),(slot l2 8),(slot l2 9),(slot l2 10),(slot l2 11),(slot l2 12),(slot l2 13),(slot l2 14),(slot l2 15),(slot l2 16),(slot l2 17),(slot l2 18),(slot l2 19),(slot l2 20),(slot l2 21),(slot l2 22),(slot l2 23),(slot l2 24),(slot l2 25),(.int .i64 0)] h fun l6 h N5=>
 Bt v0 l2 l6 N5 N1 v3 v4 h) (
 bV [undef,undef,undef,undef,undef,undef,undef,undef,undef,undef,undef,undef,(.slice none 0 0),undef,undef,(.int .i64 0)] h fun Ki h Kh=>
 Bu l2 Ki a0 Kh h κ)
theorem ZF (a0:Value) (h:Heap) (κ:KQ):aJ prog 33 [a0] h κ = (
 CallW prog 30 [a0] h fun v0 h=>
 bV [undef,undef,undef,undef,undef,undef,undef,undef,undef,undef,undef,undef,undef,undef,undef,undef,undef,undef,undef,undef,undef,undef,undef,(.slice none 0 0),undef,undef,undef,undef,undef,(.int .i64 0)] h fun l2 h N1=>
 Bv v0 l2 N1 a0 h κ) := by kernel_rfl
theorem ZG (a0 a1:Value) (h:Heap) (κ:KQ):aJ prog 34 [a0,a1] h κ = (
 ay False (Value.cells a1).toList 24 false fun o0 => ai False o0 h fun b1 h=>
 aI (ax none 2 (ptrTo b1) h fun v _=>some v) h fun v2 h=>
 aI (some a0) h fun v3 h=>
 aI (bE none v3 h fun v _=>some v) h fun v4 h=>
 aI (fieldAddrB none 0 v4 h fun v _=>some v) h fun v5 h=>
 aI (fieldAddrB none 0 v5 h fun v _=>some v) h fun v6 h=>
 aI (load1 none v6 h fun v _=>some v) h fun v7 h=>
 CallW prog 87 [v2,v7] h fun v8 h=>
 κ v8 h) := by kernel_rfl
def Iq (v4 a1:Value) (b1 b3:Nat) (h:Heap) (κ:KQ):Prop :=
 CallW prog 89 [v4,a1] h fun v12 h=>
 au False 0 v12 h fun bI h=>
 au False 1 v12 h fun bJ h=>
 au False 2 v12 h fun bG h=>
 aF False 2 (ptrTo b1) bI h fun v16 h=>
 aF False 5 (ptrTo b3) bJ h fun v17 h=>
 ax False 2 (ptrTo b1) h fun bQ _ => ax False 5 (ptrTo b3) h fun v19 _ => κ (Value.tuple (Array.mk [bQ,v19,bG])) h
theorem ZH (a0 a1:Value) (h:Heap) (κ:KQ):aJ prog 35 [a0,a1] h κ = (
 ay False [(.int .i64 0),(.int .i64 0)] 24 false fun o0 => ai False o0 h fun b1 h=>
 ay False [(.int .i64 0),(.int .i64 0),(.int .i64 0),(.int .i64 0),(.int .i64 0)] 54 false fun o2 => ai False o2 h fun b3 h=>
 CallW prog 88 [a0,a1] h fun v4 h=>
 av False prog .eql 118 true false v4 (.pointer none) h fun v5 h=>
 aD v5 (
 bC False [] [] [(.int .i64 0),(.int .i64 0)] fun Ni=>
 bC False [] [] [(.int .i64 0),(.int .i64 0),(.int .i64 0),(.int .i64 0),(.int .i64 0)] fun Kn=>
 aF False 2 (ptrTo b1) (Value.agg (Array.mk Ni)) h fun v8 h=>
 aF False 5 (ptrTo b3) (Value.agg (Array.mk Kn)) h fun v9 h=>
 ax False 2 (ptrTo b1) h fun v10 _ => ax False 5 (ptrTo b3) h fun v11 _ => κ (Value.tuple (Array.mk [v10,v11,(.bool false)])) h) (
 Iq v4 a1 b1 b3 h κ)) := by kernel_rfl
def Ir (a0 v3:Value) (b1:Nat) (a2:Value) (h:Heap) (κ:KQ):Prop :=
 aI (some a0) h fun v5 h=>
 aI (bE none v5 h fun v _=>some v) h fun v6 h=>
 aI (fieldAddrB none 5 v6 h fun v _=>some v) h fun v7 h=>
 aI (load1 none v7 h fun v _=>some v) h fun v8 h=>
 aI (some v3) h fun v9 h=>
 aI (an none 1 v8 v9 h fun v _=>some v) h fun v10 h=>
 aI (load1 none v10 h fun v _=>some v) h fun v11 h=>
 aI (ax none 2 (ptrTo b1) h fun v _=>some v) h fun v12 h=>
 aI (some a2) h fun bI h=>
 CallW prog 90 [v11,v12,bI] h fun bJ h=>
 aI (au none 0 bJ h fun v _=>some v) h fun bG h=>
 aI (au none 1 bJ h fun v _=>some v) h fun v16 h=>
 κ (Value.tuple (Array.mk [bG,v16])) h
theorem ZI (a0 a1 a2:Value) (h:Heap) (κ:KQ):aJ prog 36 [a0,a1,a2] h κ = (
 ay False (Value.cells a1).toList 24 false fun o0 => ai False o0 h fun b1 h=>
 ax False 2 (ptrTo b1) h fun v2 h=>
 CallW prog 12 [a0,v2] h fun v3 h=>
 av False prog .lss 3 true false v3 (.int .i64 0) h fun v4 h=>
 aD v4 (
 κ (Value.tuple (Array.mk [(.int .i64 0),(.bool false)])) h) (
 Ir a0 v3 b1 a2 h κ)) := by kernel_rfl
def Is (a0 v3:Value) (b1:Nat) (a2:Value) (h:Heap) (κ:KQ):Prop :=
 aI (some a0) h fun v5 h=>
 aI (bE none v5 h fun v _=>some v) h fun v6 h=>
 aI (fieldAddrB none 4 v6 h fun v _=>some v) h fun v7 h=>
 aI (load1 none v7 h fun v _=>some v) h fun v8 h=>
 aI (some v3) h fun v9 h=>
 aI (an none 1 v8 v9 h fun v _=>some v) h fun v10 h=>
 aI (load1 none v10 h fun v _=>some v) h fun v11 h=>
 aI (ax none 2 (ptrTo b1) h fun v _=>some v) h fun v12 h=>
 aI (some a2) h fun bI h=>
 CallW prog 91 [v11,v12,bI] h fun bJ h=>
 aI (au none 0 bJ h fun v _=>some v) h fun bG h=>
 aI (au none 1 bJ h fun v _=>some v) h fun v16 h=>
 κ (Value.tuple (Array.mk [bG,v16])) h
theorem ZJ (a0 a1 a2:Value) (h:Heap) (κ:KQ):aJ prog 37 [a0,a1,a2] h κ = (
 ay False (Value.cells a1).toList 24 false fun o0 => ai False o0 h fun b1 h=>
 ax False 2 (ptrTo b1) h fun v2 h=>
 CallW prog 34 [a0,v2] h fun v3 h=>
 av False prog .lss 3 true false v3 (.int .i64 0) h fun v4 h=>
 aD v4 (
 κ (Value.tuple (Array.mk [(.int .i64 0),(.bool false)])) h) (
 Is a0 v3 b1 a2 h κ)) := by kernel_rfl
def Iu (a0:Value) (l1:List Value) (N0:List Value→Heap→Prop) (v2 v3 v4 v5 v6:Value) (h:Heap):Prop :=
 bE False a0 h fun v7 h=>
 fieldAddrB False 4 v7 h fun v8 h=>
 load1 False v8 h fun v9 h=>
 an False 1 v9 (slot l1 20) h fun v10 h=>
 load1 False v10 h fun v11 h=>
 CallW prog 92 [v11] h fun v12 h=>
 av False prog .add 3 false false (slot l1 17) v12 h fun bI h=>
 av False prog .add 3 true false (slot l1 20) (.int .i64 1) h fun bJ h=>
 N0 [(slot l1 20),a0,v2,v3,v4,v5,v6,(slot l1 17),a0,v7,v8,v9,(slot l1 20),v10,v11,v12,bI,bI,(slot l1 20),bJ,bJ] h
def Bw (a0:Value) (l1:List Value) (N0:List Value→Heap→Prop) (h:Heap) (κ:KQ):Prop :=
 bE False a0 h fun v2 h=>
 fieldAddrB False 4 v2 h fun v3 h=>
 load1 False v3 h fun v4 h=>
 bh False v4 h fun v5 h=>
 av False prog .lss 3 false false (slot l1 20) v5 h fun v6 h=>
 aD v6 (
 Iu a0 l1 N0 v2 v3 v4 v5 v6 h) (
 bE False a0 h fun bG h=>
 fieldAddrB False 5 bG h fun v16 h=>
 load1 False v16 h fun v17 h=>
 CallW prog 93 [v17] h fun bQ h=>
 κ (Value.tuple (Array.mk [(slot l1 17),bQ])) h)
theorem ZK (a0:Value) (h:Heap) (κ:KQ):aJ prog 38 [a0] h κ = (
 bV [undef,undef,undef,undef,undef,undef,undef,undef,undef,undef,undef,undef,undef,undef,undef,undef,undef,(.int .i64 0),undef,undef,(.int .i64 0)] h fun l1 h N0=>
 Bw a0 l1 N0 h κ) := by kernel_rfl
theorem ZL (a0:Value) (h:Heap) (κ:KQ):aJ prog 39 [a0] h κ = (
 ay False [(.int .i64 0),(.int .i64 0),(.int .i64 0),(.int .i64 0)] 29 false fun o0 => ai False o0 h fun b1 h=>
 av False prog .eql 30 true false a0 (.pointer none) h fun v2 h=>
 aD v2 (
 bC False [] [] [(.int .i64 0),(.int .i64 0),(.int .i64 0),(.int .i64 0)] fun cs3=>
 aF False 4 (ptrTo b1) (Value.agg (Array.mk cs3)) h fun v4 h=>
 ax False 4 (ptrTo b1) h fun v5 _ => κ v5 h) (
 bE False a0 h fun v6 h=>
 fieldAddrB False 0 v6 h fun v7 h=>
 ax False 4 v7 h fun v8 h=>
 aF False 4 (ptrTo b1) v8 h fun v9 h=>
 ax False 4 (ptrTo b1) h fun v10 _ => κ v10 h)) := by kernel_rfl
def Iv (b1:Nat) (h:Heap) (κ:KQ):Prop :=
 fieldAddrB False 0 (ptrTo b1) h fun v5 h=>
 load1 False v5 h fun v6 h=>
 av False prog .lss 3 true false v6 (.int .i64 0) h fun v7 h=>
 ag (ah v7 false) (fun K8=>
 fieldAddrB False 0 (ptrTo b1) h K8) h fun v9 h=>
 ag (ah v7 false) (fun yV=>
 load1 False v9 h yV) h fun v11 h=>
 ag (ah v7 false) (fun tU=>
 av False prog .geq 3 true false v11 (.int .i64 100) h tU) h fun bI h=>
 bt False v7 (.bool true) bI h fun bJ h=>
 ag (ah bJ false) (fun QU=>
 fieldAddrB False 1 (ptrTo b1) h QU) h fun v16 h=>
 ag (ah bJ false) (fun M_=>
 load1 False v16 h M_) h fun bQ h=>
 ag (ah bJ false) (fun Dm=>
 av False prog .lss 3 true false bQ (.int .i64 (-1)) h Dm) h fun v20 h=>
 bt False bJ (.bool true) v20 h fun v21 h=>
 ag (ah v21 false) (fun K22=>
 fieldAddrB False 1 (ptrTo b1) h K22) h fun v23 h=>
 ag (ah v21 false) (fun Km=>
 load1 False v23 h Km) h fun v25 h=>
 ag (ah v21 false) (fun Dn=>
 av False prog .geq 3 true false v25 (.int .i64 100) h Dn) h fun v27 h=>
 bt False v21 (.bool true) v27 h fun v28 h=>
 aD v28 (
 κ (.int .i64 (-1)) h) (
 fieldAddrB False 1 (ptrTo b1) h fun gN h=>
 load1 False gN h fun v30 h=>
 av False prog .eql 3 true false v30 (.int .i64 (-1)) h fun v31 h=>
 aD v31 (
 κ (.int .i64 1) h) (
 κ (.int .i64 2) h))
theorem ZM (a0:Value) (h:Heap) (κ:KQ):aJ prog 43 [a0] h κ = (
 ay False (Value.cells a0).toList 24 false fun o0 => ai False o0 h fun b1 h=>
 aI (ax none 2 (ptrTo b1) h fun v _=>some v) h fun v2 h=>
 CallW prog 94 [] h fun v3 h=>
 dI ((gM (ax none 2 (ptrTo b1) h fun v _=>some v) v2) && true) (aI (av none prog .eql 24 false false v2 v3 h fun v _=>some v) h fun v4 h=>
 aD v4 (
 κ (.int .i64 0) h) (
 Iv b1 h κ))) := by kernel_rfl
def Bx (l13:List Value) (a0:Value) (o_:Nat) (Ko:List Value→Heap→Prop) (h:Heap) (κ:KQ):Prop :=
 av False prog .lss 3 false false (slot l13 11) a0 h fun bJ h=>
 aD bJ (
 bE False (ptrTo o_) h fun bG h=>
 fieldAddrB False 0 bG h fun v16 h=>
 CallW prog 95 [(Value.iface 134 v16),(Value.iface 3 (slot l13 11))] h fun v17 h=>
 av False prog .add 3 true false (slot l13 11) (.int .i64 1) h fun bQ h=>
 Ko [bJ,(slot l13 11),(slot l13 11),(ptrTo o_),bG,v16,(Value.iface 134 v16),(slot l13 11),(Value.iface 3 (slot l13 11)),v17,bQ,bQ] h) (
 κ (Value.tuple (Array.mk [(ptrTo o_),(.int .i64 0)])) h)
theorem S_ (a0:Value) (h:Heap) (κ:KQ):aJ prog 44 [a0] h κ = (
 av False prog .lss 3 true false a0 (.int .i64 0) h fun v0 h=>
 ag (ah v0 false) (fun K1=>
 K1 a0 h) h fun v2 h=>
 ag (ah v0 false) (fun K3=>
 av False prog .gtr 3 true false v2 (.int .i64 128) h K3) h fun v4 h=>
 bt False v0 (.bool true) v4 h fun v5 h=>
 aD v5 (
 κ (Value.tuple (Array.mk [(.pointer none),(.int .i64 2)])) h) (
 Up False a0 a0 [(.bool false)] 4 h fun v8 h=>
 bC False [(1,1)] [v8] [(.slice none 0 0),(.slice none 0 0)] fun cs9=>
 ay False (Value.cells (Value.agg (Array.mk cs9))).toList 132 false fun Nj => ai False Nj h fun o_ h=>
 bV [undef,undef,undef,undef,undef,undef,undef,undef,undef,undef,undef,(.int .i64 0)] h fun l13 h Ko=>
 Bx l13 a0 o_ Ko h κ)) := by kernel_rfl
theorem Ta (a0 a1:Value) (h:Heap) (κ:KQ):aJ prog 45 [a0,a1] h κ = (
 av False prog .lss 3 true false a0 (.int .i64 1) h fun v0 h=>
 ag (ah v0 false) (fun K1=>
 K1 a0 h) h fun v2 h=>
 ag (ah v0 false) (fun K3=>
 av False prog .gtr 3 true false v2 (.int .i64 64) h K3) h fun v4 h=>
 bt False v0 (.bool true) v4 h fun v5 h=>
 ag (ah v5 false) (fun K6=>
 K6 a1 h) h fun v7 h=>
 ag (ah v5 false) (fun K8=>
 av False prog .eql 82 true false v7 (.pointer none) h K8) h fun v9 h=>
 bt False v5 (.bool true) v9 h fun v10 h=>
 aD v10 (
 κ (Value.tuple (Array.mk [(.pointer none),(.int .i64 2)])) h) (
 ai False (.map [] 0) h fun tQ h=>
 bC False [(0,1),(1,1),(2,1)] [a0,a1,(nZ tQ)] [(.int .i64 0),(.pointer none),(Value.map none)] fun aeZ=>
 ay False (Value.cells (Value.agg (Array.mk aeZ))).toList 137 false fun UU => ai False UU h fun Iw h=>
 κ (Value.tuple (Array.mk [(ptrTo Iw),(.int .i64 0)])) h)) := by kernel_rfl
def By (a0:Value) (b1:Nat) (N24:List Value→Heap→Prop) (v23 v26:Value) (h:Heap) (κ:KQ):Prop :=
 aI (some a0) h fun v27 h=>
 aI (bE none v27 h fun v _=>some v) h fun v28 h=>
 aI (fieldAddrB none 2 v28 h fun v _=>some v) h fun gN h=>
 aI (load1 none gN h fun v _=>some v) h fun v30 h=>
 aI (kT none v30 h fun v _=>some v) h fun v31 h=>
 aI (some a0) h fun v32 h=>
 aI (bE none v32 h fun v _=>some v) h fun v33 h=>
 aI (fieldAddrB none 0 v33 h fun v _=>some v) h fun ja h=>
 aI (load1 none ja h fun v _=>some v) h fun v35 h=>
 aI (av none prog .geq 3 false false v31 v35 h fun v _=>some v) h fun h_ h=>
 aD h_ (
 κ (Value.tuple (Array.mk [(.int .i64 0),(.bool false),(.int .i64 8)])) h) (
 ax False 2 (ptrTo b1) h fun v37 h=>
 bC False [(0,2)] [v37] [(.int .i64 0),(.int .i64 0),(.slice none 0 0),(.int .i64 0)] fun ZN=>
 ay False (Value.cells (Value.agg (Array.mk ZN))).toList 51 false fun o39 => ai False o39 h fun Ui h=>
 N24 [v23,v26,v27,v28,gN,v30,v31,v32,v33,ja,v35,h_,(.int .i64 0),(.bool false),(.int .i64 0),v37,(Value.agg (Array.mk ZN)),(ptrTo Ui),(ptrTo Ui)] h)
def Ix (ZO:List Value) (v45 a2 a3 a0:Value) (h:Heap) (κ:KQ):Prop :=
 bE False (slot ZO 18) h fun mN h=>
 ax False 4 mN h fun v49 h=>
 CallW prog 98 [v49,v45,a2,a3] h fun v50 h=>
 au False 0 v50 h fun v51 h=>
 au False 1 v50 h fun lQ h=>
 au False 2 v50 h fun v53 h=>
 ay False [(.int .i64 0),(.int .i64 0),(.slice none 0 0),(.int .i64 0)] 51 false fun o54 => ai False o54 h fun b55 h=>
 aF False 4 (ptrTo b55) v51 h fun qN h=>
 ax False 4 (ptrTo b55) h fun oc h=>
 CallW prog 99 [a0,oc] h fun v58 h=>
 κ (Value.tuple (Array.mk [v45,lQ,(.int .i64 0)])) h
def Bz (a0:Value) (ZO:List Value) (a2 a3:Value) (h:Heap) (κ:KQ):Prop :=
 bE False a0 h fun v41 h=>
 fieldAddrB False 1 v41 h fun ia h=>
 load1 False ia h fun j7 h=>
 CallW prog 97 [j7] h fun v44 h=>
 au False 0 v44 h fun v45 h=>
 au False 1 v44 h fun v46 h=>
 av False prog .neq 26 true false v46 (.int .i64 0) h fun j0 h=>
 aD j0 (
 κ (Value.tuple (Array.mk [(.int .i64 0),(.bool false),(.int .i64 8)])) h) (
 Ix ZO v45 a2 a3 a0 h κ)
def BA (a0:Value) (b1:Nat) (a2 a3:Value) (h:Heap) (κ:KQ):Prop :=
 aI (some a0) h fun bG h=>
 aI (bE none bG h fun v _=>some v) h fun v16 h=>
 aI (fieldAddrB none 2 v16 h fun v _=>some v) h fun v17 h=>
 aI (load1 none v17 h fun v _=>some v) h fun bQ h=>
 aI (ax none 2 (ptrTo b1) h fun v _=>some v) h fun v19 h=>
 aI (eo none prog 24 (.pointer none) true bQ v19 h fun v _=>some v) h fun v20 h=>
 aI (some v20) h fun v21 h=>
 aI (au none 0 v21 h fun v _=>some v) h fun v22 h=>
 aI (au none 1 v21 h fun v _=>some v) h fun v23 h=>
 dI ((gM (au none 1 v21 h fun v _=>some v) v23) && true) (dN (fun N24=>
 jJ False .not v23 h fun v26 h=>
 aD v26 (
 By a0 b1 N24 v23 v26 h κ) (
 N24 [v23,v26,undef,undef,undef,undef,undef,undef,undef,undef,undef,undef,(.int .i64 0),(.bool false),(.int .i64 0),undef,undef,undef,v22] h)) fun ZO h=>
 Bz a0 ZO a2 a3 h κ)
def Iy (b1:Nat) (a0 a2 a3:Value) (h:Heap) (κ:KQ):Prop :=
 ax False 2 (ptrTo b1) h fun v11 h=>
 CallW prog 90 [a0,v11,a2] h fun v12 h=>
 au False 0 v12 h fun bI h=>
 au False 1 v12 h fun bJ h=>
 aD bJ (
 κ (Value.tuple (Array.mk [(.int .i64 0),(.bool false),(.int .i64 4)])) h) (
 BA a0 b1 a2 a3 h κ)
def Iz (a3:Value) (b1:Nat) (a0 a2:Value) (h:Heap) (κ:KQ):Prop :=
 av False prog .eql 33 true false a3 (.int .i64 0) h fun v3 h=>
 ag (ah v3 false) (fun K4=>
 K4 a3 h) h fun v5 h=>
 ag (ah v3 false) (fun K6=>
 CallW prog 96 [v5] h K6) h fun v7 h=>
 ag (ah v3 false) (fun K8=>
 jJ False .not v7 h K8) h fun v9 h=>
 bt False v3 (.bool true) v9 h fun v10 h=>
 aD v10 (
 κ (Value.tuple (Array.mk [(.int .i64 0),(.bool false),(.int .i64 2)])) h) (
 Iy b1 a0 a2 a3 h κ)
theorem ZP (a0 a1 a2 a3:Value) (h:Heap) (κ:KQ):aJ prog 46 [a0,a1,a2,a3] h κ = (
 ay False (Value.cells a1).toList 24 false fun o0 => ai False o0 h fun b1 h=>
 av False prog .eql 89 true false a0 (.pointer none) h fun v2 h=>
 aD v2 (
 κ (Value.tuple (Array.mk [(.int .i64 0),(.bool false),(.int .i64 1)])) h) (
 Iz a3 b1 a0 a2 h κ)) := by kernel_rfl
theorem ZQ (a0 a1:Value) (h:Heap) (κ:KQ):aJ prog 47 [a0,a1] h κ = (
 ay False (Value.cells a0).toList 24 false fun o0 => ai False o0 h fun b1 h=>
 CallW prog 100 [a1] h fun v2 h=>
 jJ False .not v2 h fun v3 h=>
 ag (ah v3 false) (fun K4=>
 ax False 2 (ptrTo b1) h K4) h fun v5 h=>
 ag (ah v3 false) (fun K6=>
 CallW prog 101 [v5] h K6) h fun v7 h=>
 ag (ah v3 false) (fun K8=>
 av False prog .neq 26 true false v7 (.int .i64 0) h K8) h fun v9 h=>
 bt False v3 (.bool true) v9 h fun v10 h=>
 aD v10 (
 κ (.int .i64 (-1)) h) (
 ax False 2 (ptrTo b1) h fun v11 h=>
 CallW prog 102 [v11] h fun v12 h=>
 jo False .u32 a1 h fun bI h=>
 av False prog .rem 146 false false v12 bI h fun bJ h=>
 jo False .i64 bJ h fun bG h=>
 κ bG h)) := by kernel_rfl
def BB (v0 a0 a1 a2:Value) (h:Heap) (κ:KQ):Prop :=
 av False prog .eql 89 true false v0 (.pointer none) h fun v17 h=>
 aD v17 (
 CallW prog 60 [a0] h fun bQ h=>
 κ (Value.tuple (Array.mk [(.bool false),bQ])) h) (
 CallW prog 103 [v0,a1,a2] h fun v19 h=>
 au False 0 v19 h fun v20 h=>
 au False 1 v19 h fun v21 h=>
 κ (Value.tuple (Array.mk [v20,v21])) h)
theorem ZR (a0 a1 a2:Value) (h:Heap) (κ:KQ):aJ prog 48 [a0,a1,a2] h κ = (
 CallW prog 59 [a0,a1] h fun v0 h=>
 av False prog .neq 30 true false a0 (.pointer none) h fun v1 h=>
 ag (ah v1 true) (fun K2=>
 K2 a2 h) h fun v3 h=>
 ag (ah v1 true) (fun K4=>
 av False prog .eql 33 true false v3 (.int .i64 0) h K4) h fun v5 h=>
 ag (ah v1 true) (fun K6=>
 K6 v5 h) h fun v7 h=>
 ag (ah v7 false) (fun K8=>
 K8 a2 h) h fun v9 h=>
 ag (ah v7 false) (fun yV=>
 CallW prog 96 [v9] h yV) h fun v11 h=>
 ag (ah v7 false) (fun tU=>
 jJ False .not v11 h tU) h fun bI h=>
 ag (ah v1 true) (fun Dl=>
 bt False v7 (.bool true) bI h Dl) h fun bG h=>
 bt False v1 bG (.bool false) h fun v16 h=>
 aD v16 (
 κ (Value.tuple (Array.mk [(.bool false),(.int .i64 2)])) h) (
 BB v0 a0 a1 a2 h κ)) := by kernel_rfl
theorem ZS (a0 a1:Value) (h:Heap) (κ:KQ):aJ prog 49 [a0,a1] h κ = (
 CallW prog 59 [a0,a1] h fun v0 h=>
 av False prog .eql 89 true false v0 (.pointer none) h fun v1 h=>
 aD v1 (
 CallW prog 60 [a0] h fun v2 h=>
 κ (Value.tuple (Array.mk [(.slice none 0 0),v2])) h) (
 CallW prog 104 [v0,a1] h fun v3 h=>
 au False 0 v3 h fun v4 h=>
 au False 1 v3 h fun v5 h=>
 κ (Value.tuple (Array.mk [v4,v5])) h)) := by kernel_rfl
theorem ZT (a0 a1 a2:Value) (h:Heap) (κ:KQ):aJ prog 50 [a0,a1,a2] h κ = (
 CallW prog 59 [a0,a1] h fun v0 h=>
 av False prog .eql 89 true false v0 (.pointer none) h fun v1 h=>
 aD v1 (
 CallW prog 60 [a0] h fun v2 h=>
 κ v2 h) (
 CallW prog 105 [v0,a1,a2] h fun v3 h=>
 κ v3 h)) := by kernel_rfl
def IA (v1:Value) (l4:List Value) (a0:Value) (N3:List Value→Heap→Prop) (v5:Value) (h:Heap):Prop :=
 an False 2 v1 (slot l4 23) h fun v6 h=>
 ax False 2 v6 h fun v7 h=>
 ay False [(.int .i64 0),(.int .i64 0)] 24 false fun o8 => ai False o8 h fun b9 h=>
 aF False 2 (ptrTo b9) v7 h fun v10 h=>
 aI (some a0) h fun v11 h=>
 aI (bE none v11 h fun v _=>some v) h fun v12 h=>
 aI (fieldAddrB none 2 v12 h fun v _=>some v) h fun bI h=>
 aI (load1 none bI h fun v _=>some v) h fun bJ h=>
 aI (ax none 2 (ptrTo b9) h fun v _=>some v) h fun bG h=>
 aI (eo none prog 24 (.pointer none) false bJ bG h fun v _=>some v) h fun v16 h=>
 aI (bE none v16 h fun v _=>some v) h fun v17 h=>
 aI (ax none 4 v17 h fun v _=>some v) h fun bQ h=>
 T7 (ay none [(.int .i64 0),(.int .i64 0),(.slice none 0 0),(.int .i64 0)] 51 false fun o => some (o,ptrTo)) h fun v19 h=>
 aF False 4 v19 bQ h fun v20 h=>
 fieldAddrB False 2 v19 h fun v21 h=>
 load1 False v21 h fun v22 h=>
 CallW prog 107 [v22] h fun v23 h=>
 fieldAddrB False 2 v19 h fun v24 h=>
 aF False 1 v24 v23 h fun v25 h=>
 ax False 4 v19 h fun v26 h=>
 bC False [(0,4)] [v26] (aY [(.int .i64 0),(.int .i64 0),(.slice none 0 0),(.int .i64 0)] 1) fun ae0 => ay False ae0 51 false fun o27 => ai False o27 h fun b28 h=>
 bB False 51 4 [(.int .i64 0),(.int .i64 0),(.slice none 0 0),(.int .i64 0)] false (slot l4 21) (sliceTo 1 1 b28) h fun v30 h=>
 av False prog .add 3 true false (slot l4 23) (.int .i64 1) h fun v31 h=>
 N3 [v5,v6,v7,(ptrTo b9),v11,v12,bI,bJ,bG,v16,v17,bQ,v19,v21,v22,v23,v24,(slot l4 21),v26,(sliceTo 1 1 b28),v30,v30,v31,v31] h
def IB (a0:Value) (h:Heap) (κ:KQ):Prop :=
 CallW prog 106 [a0] h fun v1 h=>
 bh False v1 h fun v2 h=>
 bV [undef,undef,undef,undef,undef,undef,undef,undef,undef,undef,undef,undef,undef,undef,undef,undef,undef,undef,undef,undef,undef,(.slice none 0 0),undef,(.int .i64 0)] h fun l4 h N3=>
 av False prog .lss 3 false false (slot l4 23) v2 h fun v5 h=>
 aD v5 (
 IA v1 l4 a0 N3 v5 h) (
 κ (slot l4 21) h)
theorem ZU (a0:Value) (h:Heap) (κ:KQ):aJ prog 51 [a0] h κ = (
 av False prog .eql 89 true false a0 (.pointer none) h fun v0 h=>
 aD v0 (
 κ (.slice none 0 0) h) (
 IB a0 h κ)) := by kernel_rfl
theorem ZV (a0 a1:Value) (h:Heap) (κ:KQ):aJ prog 54 [a0,a1] h κ = (
 ay False (Value.cells a0).toList 24 false fun o0 => ai False o0 h fun b1 h=>
 ay False (Value.cells a1).toList 24 false fun o2 => ai False o2 h fun b3 h=>
 aI (fieldAddrB none 0 (ptrTo b1) h fun v _=>some v) h fun v4 h=>
 aI (load1 none v4 h fun v _=>some v) h fun v5 h=>
 aI (fieldAddrB none 0 (ptrTo b3) h fun v _=>some v) h fun v6 h=>
 aI (load1 none v6 h fun v _=>some v) h fun v7 h=>
 aI (fieldAddrB none 1 (ptrTo b1) h fun v _=>some v) h fun v8 h=>
 aI (load1 none v8 h fun v _=>some v) h fun v9 h=>
 aI (fieldAddrB none 1 (ptrTo b3) h fun v _=>some v) h fun v10 h=>
 aI (load1 none v10 h fun v _=>some v) h fun v11 h=>
 CallW prog 58 [v5,v7] h fun v12 h=>
 dI ((gM (fieldAddrB none 1 (ptrTo b1) h fun v _=>some v) v8) && ((gM (load1 none v8 h fun v _=>some v) v9) && ((gM (fieldAddrB none 1 (ptrTo b3) h fun v _=>some v) v10) && ((gM (load1 none v10 h fun v _=>some v) v11) && true)))) (CallW prog 58 [v9,v11] h fun bI h=>
 T7 (bC none [(0,1),(1,1)] [v12,bI] (aY [(.int .i64 0)] 2) fun cs => ay none cs 3 false fun o => some (o,sliceTo 2 2)) h fun bJ h=>
 CallW prog 57 [bJ] h fun bG h=>
 κ bG h)) := by kernel_rfl
theorem ZW (a0 a1:Value) (h:Heap) (κ:KQ):aJ prog 56 [a0,a1] h κ = (
 ay False (Value.cells a0).toList 57 false fun o0 => ai False o0 h fun b1 h=>
 ay False (Value.cells a1).toList 57 false fun o2 => ai False o2 h fun b3 h=>
 aI (fieldAddrB none 0 (ptrTo b1) h fun v _=>some v) h fun v4 h=>
 aI (load1 none v4 h fun v _=>some v) h fun v5 h=>
 aI (fieldAddrB none 0 (ptrTo b3) h fun v _=>some v) h fun v6 h=>
 aI (load1 none v6 h fun v _=>some v) h fun v7 h=>
 aI (fieldAddrB none 1 (ptrTo b1) h fun v _=>some v) h fun v8 h=>
 aI (ax none 2 v8 h fun v _=>some v) h fun v9 h=>
 aI (fieldAddrB none 1 (ptrTo b3) h fun v _=>some v) h fun v10 h=>
 aI (ax none 2 v10 h fun v _=>some v) h fun v11 h=>
 CallW prog 58 [v5,v7] h fun v12 h=>
 dI ((gM (fieldAddrB none 1 (ptrTo b1) h fun v _=>some v) v8) && ((gM (ax none 2 v8 h fun v _=>some v) v9) && ((gM (fieldAddrB none 1 (ptrTo b3) h fun v _=>some v) v10) && ((gM (ax none 2 v10 h fun v _=>some v) v11) && true)))) (CallW prog 54 [v9,v11] h fun bI h=>
 T7 (bC none [(0,1),(1,1)] [v12,bI] (aY [(.int .i64 0)] 2) fun cs => ay none cs 3 false fun o => some (o,sliceTo 2 2)) h fun bJ h=>
 CallW prog 57 [bJ] h fun bG h=>
 κ bG h)) := by kernel_rfl
def su (a0:Value) (l2:List Value) (N1:List Value→Heap→Prop) (v3:Value) (h:Heap) (κ:KQ):Prop :=
 an False 1 a0 (slot l2 10) h fun v4 h=>
 load1 False v4 h fun v5 h=>
 av False prog .neq 3 false false v5 (.int .i64 0) h fun v6 h=>
 aD v6 (
 κ v5 h) (
 av False prog .add 3 true false (slot l2 10) (.int .i64 1) h fun v7 h=>
 N1 [v3,v4,v5,v5,v5,(.int .i64 0),v6,(slot l2 7),(slot l2 8),v7,v7] h)
theorem ZX (a0:Value) (h:Heap) (κ:KQ):aJ prog 57 [a0] h κ = (
 bh False a0 h fun v0 h=>
 bV [undef,undef,undef,undef,undef,undef,undef,undef,(.int .i64 0),undef,(.int .i64 0)] h fun l2 h N1=>
 av False prog .lss 3 false false (slot l2 10) v0 h fun v3 h=>
 aD v3 (
 su a0 l2 N1 v3 h κ) (
 κ (.int .i64 0) h)) := by kernel_rfl
def vM (a0 a1:Value) (h:Heap) (κ:KQ):Prop :=
 av False prog .lss 3 false false a0 a1 h fun v2 h=>
 aD v2 (
 κ (.int .i64 (-1)) h) (
 av False prog .gtr 3 false false a0 a1 h fun v3 h=>
 aD v3 (
 κ (.int .i64 1) h) (
 κ (.int .i64 0) h))
theorem ZY (a0 a1:Value) (h:Heap) (κ:KQ):aJ prog 58 [a0,a1] h κ = (
 CallW prog 111 [a0] h fun v0 h=>
 CallW prog 111 [a1] h fun v1 h=>
 aD v0 (
 aD v1 (
 κ (.int .i64 0) h) (
 κ (.int .i64 (-1)) h)) (
 aD v1 (
 κ (.int .i64 1) h) (
 vM a0 a1 h κ))) := by kernel_rfl
def IC (a0 a1:Value) (h:Heap) (κ:KQ):Prop :=
 bE False a0 h fun v1 h=>
 fieldAddrB False 6 v1 h fun v2 h=>
 load1 False v2 h fun v3 h=>
 eo False prog 3 (.int .i64 0) true v3 a1 h fun v4 h=>
 au False 0 v4 h fun v5 h=>
 au False 1 v4 h fun v6 h=>
 jJ False .not v6 h fun v7 h=>
 ag (ah v7 false) (fun K8=>
 K8 a0 h) h fun v9 h=>
 ag (ah v7 false) (fun yV=>
 bE False v9 h yV) h fun v11 h=>
 ag (ah v7 false) (fun tU=>
 fieldAddrB False 4 v11 h tU) h fun bI h=>
 ag (ah v7 false) (fun Dl=>
 load1 False bI h Dl) h fun bG h=>
 ag (ah v7 false) (fun F6=>
 F6 a1 h) h fun v17 h=>
 ag (ah v7 false) (fun Kp=>
 CallW prog 112 [bG,v17] h Kp) h fun v19 h=>
 ag (ah v7 false) (fun F8=>
 jJ False .not v19 h F8) h fun v21 h=>
 bt False v7 (.bool true) v21 h fun v22 h=>
 aD v22 (
 κ (.pointer none) h) (
 bE False a0 h fun v23 h=>
 fieldAddrB False 5 v23 h fun v24 h=>
 load1 False v24 h fun v25 h=>
 an False 1 v25 v5 h fun v26 h=>
 load1 False v26 h fun v27 h=>
 κ v27 h)
theorem ZZ (a0 a1:Value) (h:Heap) (κ:KQ):aJ prog 59 [a0,a1] h κ = (
 av False prog .eql 30 true false a0 (.pointer none) h fun v0 h=>
 aD v0 (
 κ (.pointer none) h) (
 IC a0 a1 h κ)) := by kernel_rfl
theorem Z0 (a0:Value) (h:Heap) (κ:KQ):aJ prog 60 [a0] h κ = (
 av False prog .eql 30 true false a0 (.pointer none) h fun v0 h=>
 aD v0 (
 κ (.int .i64 1) h) (
 κ (.int .i64 5) h)) := by kernel_rfl
def ID (v0 a1 a0:Value) (h:Heap) (κ:KQ):Prop :=
 bE False v0 h fun v3 h=>
 ax False 4 v3 h fun v4 h=>
 CallW prog 115 [v4,a1] h fun v5 h=>
 au False 0 v5 h fun v6 h=>
 au False 1 v5 h fun v7 h=>
 ay False [(.int .i64 0),(.int .i64 0),(.slice none 0 0),(.int .i64 0)] 51 false fun o8 => ai False o8 h fun b9 h=>
 aF False 4 (ptrTo b9) v6 h fun v10 h=>
 bE False a0 h fun v11 h=>
 fieldAddrB False 1 v11 h fun v12 h=>
 load1 False v12 h fun bI h=>
 CallW prog 116 [bI,a1] h fun bJ h=>
 ax False 4 (ptrTo b9) h fun bG h=>
 CallW prog 99 [a0,bG] h fun v16 h=>
 κ (Value.tuple (Array.mk [v16,(.int .i64 0)])) h
theorem Z1 (a0 a1:Value) (h:Heap) (κ:KQ):aJ prog 61 [a0,a1] h κ = (
 CallW prog 113 [a0,a1] h fun v0 h=>
 av False prog .eql 138 true false v0 (.pointer none) h fun v1 h=>
 aD v1 (
 CallW prog 114 [a0] h fun v2 h=>
 κ (Value.tuple (Array.mk [(.slice none 0 0),v2])) h) (
 ID v0 a1 a0 h κ)) := by kernel_rfl
theorem Z2 (a0:Value) (h:Heap) (κ:KQ):aJ prog 62 [a0] h κ = (
 ay False (Value.cells a0).toList 51 false fun o0 => ai False o0 h fun b1 h=>
 ay False [(.int .i64 0),(.int .i64 0),(.slice none 0 0),(.int .i64 0)] 51 false fun o2 => ai False o2 h fun b3 h=>
 bC False [] [] (aY [(.int .i64 0),(.int .i64 0),(.int .i64 0),(.int .i64 0),(.int .i64 0)] 0) fun Ni => ay False Ni 54 false fun o4 => ai False o4 h fun b5 h=>
 fieldAddrB False 2 (ptrTo b1) h fun v7 h=>
 load1 False v7 h fun v8 h=>
 bB False 54 5 [(.int .i64 0),(.int .i64 0),(.int .i64 0),(.int .i64 0),(.int .i64 0)] false (sliceTo 0 0 b5) v8 h fun v9 h=>
 fieldAddrB False 2 (ptrTo b1) h fun v10 h=>
 aF False 1 v10 v9 h fun v11 h=>
 ax False 4 (ptrTo b1) h fun v12 h=>
 aF False 4 (ptrTo b3) v12 h fun bI h=>
 ax False 4 (ptrTo b3) h fun bJ _ => κ bJ h) := by kernel_rfl
def IF (b1:Nat) (l3:List Value) (N8:List Value→Heap→Prop) (h:Heap):Prop :=
 fieldAddrB False 2 (ptrTo b1) h fun v10 h=>
 load1 False v10 h fun v11 h=>
 an False 5 v11 (slot l3 36) h fun v12 h=>
 ax False 5 v12 h fun bI h=>
 ay False [(.int .i64 0),(.int .i64 0),(.int .i64 0),(.int .i64 0),(.int .i64 0)] 54 false fun UU => ai False UU h fun Iw h=>
 aF False 5 (ptrTo Iw) bI h fun v16 h=>
 aI (ax none 5 (ptrTo Iw) h fun v _=>some v) h fun v17 h=>
 CallW prog 68 [v17] h fun bQ h=>
 aI (some bQ) h fun v19 h=>
 ag (ah v19 true) (fun F8=>
 aI (ax none 5 (ptrTo Iw) h fun v _=>some v) h F8) h fun v21 h=>
 ag (ah v19 true) (fun K22=>
 CallW prog 67 [v21] h K22) h fun v23 h=>
 aI (bt none v19 v23 (.bool false) h fun v _=>some v) h fun v24 h=>
 aI (some v24) h fun v25 h=>
 ag (ah v25 true) (fun Dn=>
 aI (some (slot l3 33)) h Dn) h fun v27 h=>
 ag (ah v25 true) (fun F7=>
 aI (av none prog .lss 3 true false v27 (.int .i64 0) h fun v _=>some v) h F7) h fun gN h=>
 ag (ah v25 true) (fun Kg=>
 aI (some gN) h Kg) h fun v31 h=>
 ag (ah v31 false) (fun UR=>
 aI (fieldAddrB none 4 (ptrTo Iw) h fun v _=>some v) h UR) h fun v33 h=>
 ag (ah v31 false) (fun Zy=>
 aI (load1 none v33 h fun v _=>some v) h Zy) h fun v35 h=>
 ag (ah v31 false) (fun US=>
 aI (fieldAddrB none 2 (ptrTo b1) h fun v _=>some v) h US) h fun v37 h=>
 ag (ah v31 false) (fun UT=>
 aI (load1 none v37 h fun v _=>some v) h UT) h fun v39 h=>
 ag (ah v31 false) (fun Nc=>
 aI (some (slot l3 33)) h Nc) h fun v41 h=>
 ag (ah v31 false) (fun Nd=>
 aI (an none 5 v39 v41 h fun v _=>some v) h Nd) h fun j7 h=>
 ag (ah v31 false) (fun Nf=>
 aI (fieldAddrB none 4 j7 h fun v _=>some v) h Nf) h fun v45 h=>
 ag (ah v31 false) (fun Zz=>
 aI (load1 none v45 h fun v _=>some v) h Zz) h fun j0 h=>
 ag (ah v31 false) (fun Y8=>
 aI (av none prog .lss 3 false false v35 j0 h fun v _=>some v) h Y8) h fun v49 h=>
 ag (ah v25 true) (fun UD=>
 aI (bt none v31 (.bool true) v49 h fun v _=>some v) h UD) h fun v51 h=>
 aI (bt none v25 v51 (.bool false) h fun v _=>some v) h fun lQ h=>
 aD lQ (
 N8 [v10,v11,(slot l3 36),v12,bI,(ptrTo Iw),v17,bQ,v19,v21,v23,v24,v25,v27,gN,v31,v33,v35,v37,v39,v41,j7,v45,j0,v49,v51,lQ,(slot l3 36),(slot l3 36)] h) (
 N8 [v10,v11,(slot l3 36),v12,bI,(ptrTo Iw),v17,bQ,v19,v21,v23,v24,v25,v27,gN,v31,v33,v35,v37,v39,v41,j7,v45,j0,v49,v51,lQ,(slot l3 32),(slot l3 33)] h)
def BC (b1:Nat) (l3:List Value) (N2:List Value→Heap→Prop) (h:Heap) (κ:KQ):Prop :=
 fieldAddrB False 2 (ptrTo b1) h fun v4 h=>
 load1 False v4 h fun v5 h=>
 bh False v5 h fun v6 h=>
 av False prog .lss 3 false false (slot l3 36) v6 h fun v7 h=>
 aD v7 (
 dN (fun N8=>
 IF b1 l3 N8 h) fun l9 h=>
 av False prog .add 3 true false (slot l3 36) (.int .i64 1) h fun v53 h=>
 N2 [(slot l3 36),v4,v5,v6,v7,(slot l9 0),(slot l9 1),(slot l9 2),(slot l9 3),(slot l9 4),(slot l9 5),(slot l9 6),(slot l9 7),(slot l9 8),(slot l9 9),(slot l9 10),(slot l9 11),(slot l9 12),(slot l9 13),(slot l9 14),(slot l9 15),(slot l9 16),(slot l9 17),(slot l9 18),(slot l9 19),(slot l9 20),(slot l9 21),(slot l9 22),(slot l9 23),(slot l9 24),(slot l9 25),(slot l9 26),(slot l9 27),(slot l9 28),(slot l3 36),v53,v53] h) (
 κ (slot l3 33) h)
theorem Z3 (a0:Value) (h:Heap) (κ:KQ):aJ prog 63 [a0] h κ = (
 ay False (Value.cells a0).toList 51 false fun o0 => ai False o0 h fun b1 h=>
 bV [undef,undef,undef,undef,undef,undef,undef,undef,undef,undef,undef,undef,undef,undef,undef,undef,undef,undef,undef,undef,undef,undef,undef,undef,undef,undef,undef,undef,undef,undef,undef,undef,undef,(.int .i64 (-1)),undef,undef,(.int .i64 0)] h fun l3 h N2=>
 BC b1 l3 N2 h κ) := by kernel_rfl
def IG (b1:Nat) (l3:List Value) (N2:List Value→Heap→Prop) (v4 v5 v6 v7:Value) (h:Heap) (κ:KQ):Prop :=
 fieldAddrB False 2 (ptrTo b1) h fun v8 h=>
 load1 False v8 h fun v9 h=>
 an False 5 v9 (slot l3 16) h fun v10 h=>
 ax False 5 v10 h fun v11 h=>
 CallW prog 68 [v11] h fun v12 h=>
 jJ False .not v12 h fun bI h=>
 aD bI (
 κ (slot l3 16) h) (
 av False prog .add 3 true false (slot l3 16) (.int .i64 1) h fun bJ h=>
 N2 [(slot l3 16),v4,v5,v6,v7,v8,v9,(slot l3 16),v10,v11,v12,bI,(slot l3 12),(slot l3 13),(slot l3 16),bJ,bJ] h)
def BD (b1:Nat) (l3:List Value) (N2:List Value→Heap→Prop) (h:Heap) (κ:KQ):Prop :=
 fieldAddrB False 2 (ptrTo b1) h fun v4 h=>
 load1 False v4 h fun v5 h=>
 bh False v5 h fun v6 h=>
 av False prog .lss 3 false false (slot l3 16) v6 h fun v7 h=>
 aD v7 (
 IG b1 l3 N2 v4 v5 v6 v7 h κ) (
 κ (.int .i64 (-1)) h)
theorem Z4 (a0:Value) (h:Heap) (κ:KQ):aJ prog 64 [a0] h κ = (
 ay False (Value.cells a0).toList 51 false fun o0 => ai False o0 h fun b1 h=>
 bV [undef,undef,undef,undef,undef,undef,undef,undef,undef,undef,undef,undef,undef,(.int .i64 0),undef,undef,(.int .i64 0)] h fun l3 h N2=>
 BD b1 l3 N2 h κ) := by kernel_rfl
def BE (l3:List Value) (a2:Value) (b1:Nat) (a1:Value) (N2:List Value→Heap→Prop) (v4 v5 v6 v7:Value) (h:Heap) (κ:KQ):Prop :=
 av False prog .neq 3 false false (slot l3 30) a2 h fun v8 h=>
 ag (ah v8 true) (fun K9=>
 fieldAddrB False 2 (ptrTo b1) h K9) h fun v10 h=>
 ag (ah v8 true) (fun K11=>
 load1 False v10 h K11) h fun v12 h=>
 ag (ah v8 true) (fun UN=>
 UN (slot l3 30) h) h fun bJ h=>
 ag (ah v8 true) (fun QU=>
 an False 5 v12 bJ h QU) h fun v16 h=>
 ag (ah v8 true) (fun M_=>
 ax False 5 v16 h M_) h fun bQ h=>
 ag (ah v8 true) (fun Dm=>
 CallW prog 68 [bQ] h Dm) h fun v20 h=>
 bt False v8 v20 (.bool false) h fun v21 h=>
 ag (ah v21 true) (fun K22=>
 fieldAddrB False 2 (ptrTo b1) h K22) h fun v23 h=>
 ag (ah v21 true) (fun Km=>
 load1 False v23 h Km) h fun v25 h=>
 ag (ah v21 true) (fun Dn=>
 Dn (slot l3 30) h) h fun v27 h=>
 ag (ah v21 true) (fun F7=>
 an False 5 v25 v27 h F7) h fun gN h=>
 ag (ah v21 true) (fun Kg=>
 fieldAddrB False 2 gN h Kg) h fun v31 h=>
 ag (ah v21 true) (fun UR=>
 load1 False v31 h UR) h fun v33 h=>
 ag (ah v21 true) (fun Zy=>
 Zy a1 h) h fun v35 h=>
 ag (ah v21 true) (fun US=>
 CallW prog 24 [v33,v35] h US) h fun v37 h=>
 ag (ah v21 true) (fun UT=>
 jJ False .not v37 h UT) h fun v39 h=>
 bt False v21 v39 (.bool false) h fun v40 h=>
 aD v40 (
 κ (.bool false) h) (
 av False prog .add 3 true false (slot l3 30) (.int .i64 1) h fun v41 h=>
 N2 [(slot l3 30),v4,v5,v6,v7,(slot l3 30),a2,v8,v8,v10,v12,bJ,v16,bQ,v20,v21,v21,v23,v25,v27,gN,v31,v33,v35,v37,v39,v40,(slot l3 27),(slot l3 30),v41,v41] h)
def BF (b1:Nat) (l3:List Value) (a2 a1:Value) (N2:List Value→Heap→Prop) (h:Heap) (κ:KQ):Prop :=
 fieldAddrB False 2 (ptrTo b1) h fun v4 h=>
 load1 False v4 h fun v5 h=>
 bh False v5 h fun v6 h=>
 av False prog .lss 3 false false (slot l3 30) v6 h fun v7 h=>
 aD v7 (
 BE l3 a2 b1 a1 N2 v4 v5 v6 v7 h κ) (
 κ (.bool true) h)
theorem Z5 (a0 a1 a2:Value) (h:Heap) (κ:KQ):aJ prog 65 [a0,a1,a2] h κ = (
 ay False (Value.cells a0).toList 51 false fun o0 => ai False o0 h fun b1 h=>
 bV [undef,undef,undef,undef,undef,undef,undef,undef,undef,undef,undef,undef,undef,undef,undef,undef,undef,undef,undef,undef,undef,undef,undef,undef,undef,undef,undef,(.bool false),undef,undef,(.int .i64 0)] h fun l3 h N2=>
 BF b1 l3 a2 a1 N2 h κ) := by kernel_rfl
theorem Z6 (a0:Value) (h:Heap) (κ:KQ):aJ prog 67 [a0] h κ = (
 ay False (Value.cells a0).toList 54 false fun o0 => ai False o0 h fun b1 h=>
 fieldAddrB False 4 (ptrTo b1) h fun v2 h=>
 load1 False v2 h fun v3 h=>
 av False prog .gtr 3 true false v3 (.int .i64 0) h fun v4 h=>
 κ v4 h) := by kernel_rfl
theorem Z7 (a0:Value) (h:Heap) (κ:KQ):aJ prog 68 [a0] h κ = (
 ay False (Value.cells a0).toList 54 false fun o0 => ai False o0 h fun b1 h=>
 fieldAddrB False 2 (ptrTo b1) h fun v2 h=>
 load1 False v2 h fun v3 h=>
 av False prog .neq 33 true false v3 (.int .i64 0) h fun v4 h=>
 κ v4 h) := by kernel_rfl
theorem Z8 (a0:Value) (h:Heap) (κ:KQ):aJ prog 69 [a0] h κ = (
 av False prog .geq 33 true false a0 (.int .i64 0) h fun v0 h=>
 ag (ah v0 true) (fun K1=>
 K1 a0 h) h fun v2 h=>
 ag (ah v0 true) (fun K3=>
 av False prog .leq 33 true false v2 (.int .i64 6) h K3) h fun v4 h=>
 bt False v0 v4 (.bool false) h fun v5 h=>
 κ v5 h) := by kernel_rfl
theorem Z9 (a0:Value) (h:Heap) (κ:KQ):aJ prog 71 [a0] h κ = (
 av False prog .eql 89 true false a0 (.pointer none) h fun v0 h=>
 aD v0 (
 κ (.int .i64 0) h) (
 bE False a0 h fun v1 h=>
 fieldAddrB False 2 v1 h fun v2 h=>
 load1 False v2 h fun v3 h=>
 kT False v3 h fun v4 h=>
 κ v4 h)) := by kernel_rfl
def II (a0:Value) (h:Heap) (κ:KQ):Prop :=
 aI (some a0) h fun v1 h=>
 aI (bE none v1 h fun v _=>some v) h fun v2 h=>
 aI (fieldAddrB none 1 v2 h fun v _=>some v) h fun v3 h=>
 aI (load1 none v3 h fun v _=>some v) h fun v4 h=>
 aI (bh none v4 h fun v _=>some v) h fun v5 h=>
 aI (some a0) h fun v6 h=>
 aI (bE none v6 h fun v _=>some v) h fun v7 h=>
 aI (fieldAddrB none 0 v7 h fun v _=>some v) h fun v8 h=>
 aI (fieldAddrB none 0 v8 h fun v _=>some v) h fun v9 h=>
 aI (load1 none v9 h fun v _=>some v) h fun v10 h=>
 CallW prog 118 [v10] h fun v11 h=>
 dI ((gM (some a0) v1) && ((gM (bE none v1 h fun v _=>some v) v2) && ((gM (fieldAddrB none 1 v2 h fun v _=>some v) v3) && ((gM (load1 none v3 h fun v _=>some v) v4) && ((gM (bh none v4 h fun v _=>some v) v5) && true))))) (aI (av none prog .sub 3 false false v5 v11 h fun v _=>some v) h fun v12 h=>
 κ v12 h)
theorem Z_ (a0:Value) (h:Heap) (κ:KQ):aJ prog 72 [a0] h κ = (
 av False prog .eql 82 true false a0 (.pointer none) h fun v0 h=>
 aD v0 (
 κ (.int .i64 0) h) (
 II a0 h κ)) := by kernel_rfl
def IJ (v4 a1:Value) (b1 b3:Nat) (h:Heap) (κ:KQ):Prop :=
 bE False v4 h fun v12 h=>
 ax False 4 v12 h fun bI h=>
 CallW prog 119 [bI,a1] h fun bJ h=>
 au False 0 bJ h fun bG h=>
 au False 1 bJ h fun v16 h=>
 ay False [(.int .i64 0),(.int .i64 0),(.int .i64 0),(.int .i64 0),(.int .i64 0)] 54 false fun o17 => ai False o17 h fun b18 h=>
 aF False 5 (ptrTo b18) bG h fun v19 h=>
 aI (some v4) h fun v20 h=>
 aI (bE none v20 h fun v _=>some v) h fun v21 h=>
 aI (fieldAddrB none 0 v21 h fun v _=>some v) h fun v22 h=>
 aI (ax none 2 v22 h fun v _=>some v) h fun v23 h=>
 aI (ax none 5 (ptrTo b18) h fun v _=>some v) h fun v24 h=>
 aI (some v16) h fun v25 h=>
 aF False 2 (ptrTo b1) v23 h fun v26 h=>
 dI ((gM (ax none 5 (ptrTo b18) h fun v _=>some v) v24) && ((gM (some v16) v25) && true)) (aF False 5 (ptrTo b3) v24 h fun v27 h=>
 dI ((gM (some v16) v25) && true) (ax False 2 (ptrTo b1) h fun v28 _ => ax False 5 (ptrTo b3) h fun gN _ => κ (Value.tuple (Array.mk [v28,gN,v25])) h))
theorem Tb (a0 a1:Value) (h:Heap) (κ:KQ):aJ prog 73 [a0,a1] h κ = (
 ay False [(.int .i64 0),(.int .i64 0)] 24 false fun o0 => ai False o0 h fun b1 h=>
 ay False [(.int .i64 0),(.int .i64 0),(.int .i64 0),(.int .i64 0),(.int .i64 0)] 54 false fun o2 => ai False o2 h fun b3 h=>
 CallW prog 113 [a0,a1] h fun v4 h=>
 av False prog .eql 138 true false v4 (.pointer none) h fun v5 h=>
 aD v5 (
 bC False [] [] [(.int .i64 0),(.int .i64 0)] fun Ni=>
 bC False [] [] [(.int .i64 0),(.int .i64 0),(.int .i64 0),(.int .i64 0),(.int .i64 0)] fun Kn=>
 aF False 2 (ptrTo b1) (Value.agg (Array.mk Ni)) h fun v8 h=>
 aF False 5 (ptrTo b3) (Value.agg (Array.mk Kn)) h fun v9 h=>
 ax False 2 (ptrTo b1) h fun v10 _ => ax False 5 (ptrTo b3) h fun v11 _ => κ (Value.tuple (Array.mk [v10,v11,(.bool false)])) h) (
 IJ v4 a1 b1 b3 h κ)) := by kernel_rfl
theorem aaa (a0:Value) (h:Heap) (κ:KQ):aJ prog 74 [a0] h κ = (
 av False prog .lss 3 true false a0 (.int .i64 0) h fun v0 h=>
 ag (ah v0 false) (fun K1=>
 K1 a0 h) h fun v2 h=>
 ag (ah v0 false) (fun K3=>
 av False prog .gtr 3 true false v2 (.int .i64 128) h K3) h fun v4 h=>
 bt False v0 (.bool true) v4 h fun v5 h=>
 aD v5 (
 κ (Value.tuple (Array.mk [(.pointer none),(.int .i64 2)])) h) (
 Up False a0 a0 [(.bool false)] 4 h fun v8 h=>
 bC False [(0,1)] [v8] [(.slice none 0 0)] fun cs9=>
 ay False (Value.cells (Value.agg (Array.mk cs9))).toList 163 false fun Nj => ai False Nj h fun o_ h=>
 κ (Value.tuple (Array.mk [(ptrTo o_),(.int .i64 0)])) h)) := by kernel_rfl
theorem aab (a0 a1:Value) (h:Heap) (κ:KQ):aJ prog 75 [a0,a1] h κ = (
 av False prog .lss 3 true false a0 (.int .i64 1) h fun v0 h=>
 ag (ah v0 false) (fun K1=>
 K1 a0 h) h fun v2 h=>
 ag (ah v0 false) (fun K3=>
 av False prog .gtr 3 true false v2 (.int .i64 64) h K3) h fun v4 h=>
 bt False v0 (.bool true) v4 h fun v5 h=>
 ag (ah v5 false) (fun K6=>
 K6 a1 h) h fun v7 h=>
 ag (ah v5 false) (fun K8=>
 av False prog .eql 112 true false v7 (.pointer none) h K8) h fun v9 h=>
 bt False v5 (.bool true) v9 h fun v10 h=>
 aD v10 (
 κ (Value.tuple (Array.mk [(.pointer none),(.int .i64 2)])) h) (
 bC False [(0,1),(1,1)] [a0,a1] [(.int .i64 0),(.pointer none),(.slice none 0 0)] fun ae2=>
 ay False (Value.cells (Value.agg (Array.mk ae2))).toList 165 false fun o12 => ai False o12 h fun UW h=>
 κ (Value.tuple (Array.mk [(ptrTo UW),(.int .i64 0)])) h)) := by kernel_rfl
def IK (a0 a1 a2:Value) (h:Heap) (κ:KQ):Prop :=
 CallW prog 88 [a0,a1] h fun v8 h=>
 av False prog .eql 118 true false v8 (.pointer none) h fun v9 h=>
 aD v9 (
 κ (Value.tuple (Array.mk [(.bool false),(.int .i64 5)])) h) (
 CallW prog 120 [v8,a1,a2] h fun v10 h=>
 au False 0 v10 h fun v11 h=>
 au False 1 v10 h fun v12 h=>
 κ (Value.tuple (Array.mk [v11,v12])) h)
theorem aac (a0 a1 a2:Value) (h:Heap) (κ:KQ):aJ prog 76 [a0,a1,a2] h κ = (
 av False prog .eql 33 true false a2 (.int .i64 0) h fun v0 h=>
 ag (ah v0 false) (fun K1=>
 K1 a2 h) h fun v2 h=>
 ag (ah v0 false) (fun K3=>
 CallW prog 69 [v2] h K3) h fun v4 h=>
 ag (ah v0 false) (fun K5=>
 jJ False .not v4 h K5) h fun v6 h=>
 bt False v0 (.bool true) v6 h fun v7 h=>
 aD v7 (
 κ (Value.tuple (Array.mk [(.bool false),(.int .i64 2)])) h) (
 IK a0 a1 a2 h κ)) := by kernel_rfl
theorem aad (a0 a1:Value) (h:Heap) (κ:KQ):aJ prog 77 [a0,a1] h κ = (
 CallW prog 88 [a0,a1] h fun v0 h=>
 av False prog .eql 118 true false v0 (.pointer none) h fun v1 h=>
 aD v1 (
 κ (Value.tuple (Array.mk [(.slice none 0 0),(.int .i64 5)])) h) (
 CallW prog 121 [v0,a1] h fun v2 h=>
 au False 0 v2 h fun v3 h=>
 au False 1 v2 h fun v4 h=>
 κ (Value.tuple (Array.mk [v3,v4])) h)) := by kernel_rfl
def IL (a0:Value) (l4:List Value) (a1:Value) (N3:List Value→Heap→Prop) (v5 v6:Value) (h:Heap) (κ:KQ):Prop :=
 aI (some a0) h fun v7 h=>
 aI (some (slot l4 16)) h fun v8 h=>
 aI (an none 1 v7 v8 h fun v _=>some v) h fun v9 h=>
 aI (load1 none v9 h fun v _=>some v) h fun v10 h=>
 aI (some a1) h fun v11 h=>
 aI (some (slot l4 16)) h fun v12 h=>
 aI (an none 1 v11 v12 h fun v _=>some v) h fun bI h=>
 aI (load1 none bI h fun v _=>some v) h fun bJ h=>
 aI (av none prog .neq 3 false false v10 bJ h fun v _=>some v) h fun bG h=>
 aD bG (
 κ (.bool false) h) (
 av False prog .add 3 true false (slot l4 16) (.int .i64 1) h fun v16 h=>
 N3 [(slot l4 16),a0,v5,v6,v7,v8,v9,v10,v11,v12,bI,bJ,bG,(slot l4 13),(slot l4 16),v16,v16] h)
theorem aae (a0 a1:Value) (h:Heap) (κ:KQ):aJ prog 78 [a0,a1] h κ = (
 bh False a0 h fun v0 h=>
 bh False a1 h fun v1 h=>
 av False prog .neq 3 false false v0 v1 h fun v2 h=>
 aD v2 (
 κ (.bool false) h) (
 bV [undef,undef,undef,undef,undef,undef,undef,undef,undef,undef,undef,undef,undef,(.bool false),undef,undef,(.int .i64 0)] h fun l4 h N3=>
 bh False a0 h fun v5 h=>
 av False prog .lss 3 false false (slot l4 16) v5 h fun v6 h=>
 aD v6 (
 IL a0 l4 a1 N3 v5 v6 h κ) (
 κ (.bool true) h))) := by kernel_rfl
theorem aaf (a0 a1:Value) (h:Heap) (κ:KQ):aJ prog 79 [a0,a1] h κ = (
 CallW prog 88 [a0,a1] h fun v0 h=>
 av False prog .eql 118 true false v0 (.pointer none) h fun v1 h=>
 aD v1 (
 κ (Value.tuple (Array.mk [(.slice none 0 0),(.int .i64 5)])) h) (
 CallW prog 122 [v0,a1] h fun v2 h=>
 au False 0 v2 h fun v3 h=>
 au False 1 v2 h fun v4 h=>
 κ (Value.tuple (Array.mk [v3,v4])) h)) := by kernel_rfl
theorem aag (a0 a1 a2:Value) (h:Heap) (κ:KQ):aJ prog 80 [a0,a1,a2] h κ = (
 CallW prog 88 [a0,a1] h fun v0 h=>
 av False prog .eql 118 true false v0 (.pointer none) h fun v1 h=>
 aD v1 (
 κ (.int .i64 5) h) (
 CallW prog 123 [v0,a1,a2] h fun v2 h=>
 κ v2 h)) := by kernel_rfl
def IM (a0 v3:Value) (b1:Nat) (a2 a3:Value) (h:Heap) (κ:KQ):Prop :=
 aI (some a0) h fun v5 h=>
 aI (bE none v5 h fun v _=>some v) h fun v6 h=>
 aI (fieldAddrB none 4 v6 h fun v _=>some v) h fun v7 h=>
 aI (load1 none v7 h fun v _=>some v) h fun v8 h=>
 aI (some v3) h fun v9 h=>
 aI (an none 1 v8 v9 h fun v _=>some v) h fun v10 h=>
 aI (load1 none v10 h fun v _=>some v) h fun v11 h=>
 aI (ax none 2 (ptrTo b1) h fun v _=>some v) h fun v12 h=>
 aI (some a2) h fun bI h=>
 aI (some a3) h fun bJ h=>
 CallW prog 124 [v11,v12,bI,bJ] h fun bG h=>
 aI (au none 0 bG h fun v _=>some v) h fun v16 h=>
 aI (au none 1 bG h fun v _=>some v) h fun v17 h=>
 aI (au none 2 bG h fun v _=>some v) h fun bQ h=>
 κ (Value.tuple (Array.mk [v16,v17,bQ])) h
theorem aah (a0 a1 a2 a3:Value) (h:Heap) (κ:KQ):aJ prog 81 [a0,a1,a2,a3] h κ = (
 ay False (Value.cells a1).toList 24 false fun o0 => ai False o0 h fun b1 h=>
 ax False 2 (ptrTo b1) h fun v2 h=>
 CallW prog 34 [a0,v2] h fun v3 h=>
 av False prog .lss 3 true false v3 (.int .i64 0) h fun v4 h=>
 aD v4 (
 κ (Value.tuple (Array.mk [(.int .i64 0),(.bool false),(.int .i64 2)])) h) (
 IM a0 v3 b1 a2 a3 h κ)) := by kernel_rfl
def IN (a0:Value) (l1:List Value) (N0:List Value→Heap→Prop) (v2 v3 v4 v5 v6:Value) (h:Heap):Prop :=
 bE False a0 h fun v7 h=>
 fieldAddrB False 2 v7 h fun v8 h=>
 load1 False v8 h fun v9 h=>
 an False 4 v9 (slot l1 27) h fun v10 h=>
 ax False 4 v10 h fun v11 h=>
 ay False [(.int .i64 0),(.int .i64 0),(.slice none 0 0),(.int .i64 0)] 51 false fun o12 => ai False o12 h fun UW h=>
 aF False 4 (ptrTo UW) v11 h fun bJ h=>
 bC False [] [] (aY [(.int .i64 0),(.int .i64 0),(.int .i64 0),(.int .i64 0),(.int .i64 0)] 0) fun Br => ay False Br 54 false fun ZD => ai False ZD h fun S9 h=>
 fieldAddrB False 2 (ptrTo UW) h fun bQ h=>
 load1 False bQ h fun v19 h=>
 bB False 54 5 [(.int .i64 0),(.int .i64 0),(.int .i64 0),(.int .i64 0),(.int .i64 0)] false (sliceTo 0 0 S9) v19 h fun v20 h=>
 fieldAddrB False 2 (ptrTo UW) h fun v21 h=>
 aF False 1 v21 v20 h fun v22 h=>
 ax False 4 (ptrTo UW) h fun v23 h=>
 bC False [(0,4)] [v23] (aY [(.int .i64 0),(.int .i64 0),(.slice none 0 0),(.int .i64 0)] 1) fun UX => ay False UX 51 false fun o24 => ai False o24 h fun b25 h=>
 bB False 51 4 [(.int .i64 0),(.int .i64 0),(.slice none 0 0),(.int .i64 0)] false (slot l1 24) (sliceTo 1 1 b25) h fun v27 h=>
 av False prog .add 3 true false (slot l1 27) (.int .i64 1) h fun v28 h=>
 N0 [(slot l1 27),a0,v2,v3,v4,v5,v6,a0,v7,v8,v9,(slot l1 27),v10,v11,(ptrTo UW),(sliceTo 0 0 S9),bQ,v19,v20,v21,(slot l1 24),v23,(sliceTo 1 1 b25),v27,v27,(slot l1 27),v28,v28] h
def BG (a0:Value) (l1:List Value) (N0:List Value→Heap→Prop) (h:Heap) (κ:KQ):Prop :=
 bE False a0 h fun v2 h=>
 fieldAddrB False 2 v2 h fun v3 h=>
 load1 False v3 h fun v4 h=>
 bh False v4 h fun v5 h=>
 av False prog .lss 3 false false (slot l1 27) v5 h fun v6 h=>
 aD v6 (
 IN a0 l1 N0 v2 v3 v4 v5 v6 h) (
 κ (slot l1 24) h)
theorem aai (a0:Value) (h:Heap) (κ:KQ):aJ prog 82 [a0] h κ = (
 bV [undef,undef,undef,undef,undef,undef,undef,undef,undef,undef,undef,undef,undef,undef,undef,undef,undef,undef,undef,undef,undef,undef,undef,undef,(.slice none 0 0),undef,undef,(.int .i64 0)] h fun l1 h N0=>
 BG a0 l1 N0 h κ) := by kernel_rfl
theorem aaj (a0 a1:Value) (h:Heap) (κ:KQ):aJ prog 84 [a0,a1] h κ = (
 ay False (Value.cells a0).toList 57 false fun o0 => ai False o0 h fun b1 h=>
 fieldAddrB False 0 (ptrTo b1) h fun v2 h=>
 load1 False v2 h fun v3 h=>
 load1 False a1 h fun v4 h=>
 av False prog .neq 3 false false v3 v4 h fun v5 h=>
 κ v5 h) := by kernel_rfl
def BH (b1:Nat) (l3:List Value) (a1:Value) (N2:List Value→Heap→Prop) (v4 v5 v6 v7:Value) (h:Heap) (κ:KQ):Prop :=
 fieldAddrB False 2 (ptrTo b1) h fun v8 h=>
 load1 False v8 h fun v9 h=>
 an False 5 v9 (slot l3 22) h fun v10 h=>
 fieldAddrB False 1 v10 h fun v11 h=>
 load1 False v11 h fun v12 h=>
 av False prog .eql 3 false false v12 a1 h fun bI h=>
 aD bI (
 fieldAddrB False 2 (ptrTo b1) h fun bJ h=>
 load1 False bJ h fun bG h=>
 an False 5 bG (slot l3 22) h fun v16 h=>
 fieldAddrB False 2 v16 h fun v17 h=>
 load1 False v17 h fun bQ h=>
 κ bQ h) (
 av False prog .add 3 true false (slot l3 22) (.int .i64 1) h fun v19 h=>
 N2 [(slot l3 22),v4,v5,v6,v7,v8,v9,(slot l3 22),v10,v11,v12,a1,bI,(slot l3 13),(slot l3 14),(slot l3 15),(slot l3 16),(slot l3 17),(slot l3 18),(slot l3 19),(slot l3 22),v19,v19] h)
def vN (b1:Nat) (l3:List Value) (a1:Value) (N2:List Value→Heap→Prop) (h:Heap) (κ:KQ):Prop :=
 fieldAddrB False 2 (ptrTo b1) h fun v4 h=>
 load1 False v4 h fun v5 h=>
 bh False v5 h fun v6 h=>
 av False prog .lss 3 false false (slot l3 22) v6 h fun v7 h=>
 aD v7 (
 BH b1 l3 a1 N2 v4 v5 v6 v7 h κ) (
 κ (.int .i64 0) h)
theorem aak (a0 a1:Value) (h:Heap) (κ:KQ):aJ prog 85 [a0,a1] h κ = (
 ay False (Value.cells a0).toList 51 false fun o0 => ai False o0 h fun b1 h=>
 bV [undef,undef,undef,undef,undef,undef,undef,undef,undef,undef,undef,undef,undef,undef,undef,undef,undef,undef,undef,(.int .i64 0),undef,undef,(.int .i64 0)] h fun l3 h N2=>
 vN b1 l3 a1 N2 h κ) := by kernel_rfl
def BI (a0:Value) (l1:List Value) (a1:Value) (h:Heap) (κ:KQ):Prop :=
 bC False [] [] (aY [(.int .i64 0)] 0) fun UI => ay False UI 3 false fun o33 => ai False o33 h fun b34 h=>
 sliceB False 3 1 a0 none (some (slot l1 14)) none h fun h_ h=>
 bB False 3 1 [(.int .i64 0)] false (sliceTo 0 0 b34) h_ h fun v37 h=>
 bC False [(0,1)] [a1] (aY [(.int .i64 0)] 1) fun ae4 => ay False ae4 3 false fun o38 => ai False o38 h fun b39 h=>
 bB False 3 1 [(.int .i64 0)] false v37 (sliceTo 1 1 b39) h fun v41 h=>
 sliceB False 3 1 a0 (some (slot l1 14)) none none h fun ia h=>
 bB False 3 1 [(.int .i64 0)] false v41 ia h fun j7 h=>
 κ j7 h
def vO (a0:Value) (l1:List Value) (a1:Value) (h:Heap) (κ:KQ):Prop :=
 bh False a0 h fun bQ h=>
 av False prog .lss 3 false false (slot l1 14) bQ h fun v19 h=>
 ag (ah v19 true) (fun F8=>
 F8 a0 h) h fun v21 h=>
 ag (ah v19 true) (fun K22=>
 K22 (slot l1 14) h) h fun v23 h=>
 ag (ah v19 true) (fun Km=>
 an False 1 v21 v23 h Km) h fun v25 h=>
 ag (ah v19 true) (fun Dn=>
 load1 False v25 h Dn) h fun v27 h=>
 ag (ah v19 true) (fun F7=>
 F7 a1 h) h fun gN h=>
 ag (ah v19 true) (fun Kg=>
 av False prog .eql 3 false false v27 gN h Kg) h fun v31 h=>
 bt False v19 v31 (.bool false) h fun v32 h=>
 aD v32 (
 κ a0 h) (
 BI a0 l1 a1 h κ)
def sv (a0:Value) (l1:List Value) (a1:Value) (N0:List Value→Heap→Prop) (h:Heap) (κ:KQ):Prop :=
 bh False a0 h fun v2 h=>
 av False prog .lss 3 false false (slot l1 14) v2 h fun v3 h=>
 ag (ah v3 true) (fun K4=>
 K4 a0 h) h fun v5 h=>
 ag (ah v3 true) (fun K6=>
 K6 (slot l1 14) h) h fun v7 h=>
 ag (ah v3 true) (fun K8=>
 an False 1 v5 v7 h K8) h fun v9 h=>
 ag (ah v3 true) (fun yV=>
 load1 False v9 h yV) h fun v11 h=>
 ag (ah v3 true) (fun tU=>
 tU a1 h) h fun bI h=>
 ag (ah v3 true) (fun Dl=>
 av False prog .lss 3 false false v11 bI h Dl) h fun bG h=>
 bt False v3 bG (.bool false) h fun v16 h=>
 aD v16 (
 av False prog .add 3 true false (slot l1 14) (.int .i64 1) h fun v17 h=>
 N0 [(slot l1 14),a0,v2,v3,v3,v5,v7,v9,v11,bI,bG,v16,(slot l1 14),v17,v17] h) (
 vO a0 l1 a1 h κ)
theorem aal (a0 a1:Value) (h:Heap) (κ:KQ):aJ prog 86 [a0,a1] h κ = (
 bV [undef,undef,undef,undef,undef,undef,undef,undef,undef,undef,undef,undef,undef,undef,(.int .i64 0)] h fun l1 h N0=>
 sv a0 l1 a1 N0 h κ) := by kernel_rfl
theorem aam (a0 a1:Value) (h:Heap) (κ:KQ):aJ prog 87 [a0,a1] h κ = (
 ay False (Value.cells a0).toList 24 false fun o0 => ai False o0 h fun b1 h=>
 ax False 2 (ptrTo b1) h fun v2 h=>
 CallW prog 9 [v2] h fun v3 h=>
 av False prog .neq 26 true false v3 (.int .i64 0) h fun v4 h=>
 ag (ah v4 false) (fun K5=>
 K5 a1 h) h fun v6 h=>
 ag (ah v4 false) (fun K7=>
 av False prog .lss 3 true false v6 (.int .i64 1) h K7) h fun v8 h=>
 bt False v4 (.bool true) v8 h fun v9 h=>
 ag (ah v9 false) (fun yV=>
 yV a1 h) h fun v11 h=>
 ag (ah v9 false) (fun tU=>
 av False prog .gtr 3 true false v11 (.int .i64 16) h tU) h fun bI h=>
 bt False v9 (.bool true) bI h fun bJ h=>
 aD bJ (
 κ (.int .i64 (-1)) h) (
 ax False 2 (ptrTo b1) h fun bG h=>
 CallW prog 126 [bG] h fun v16 h=>
 jo False .u32 a1 h fun v17 h=>
 av False prog .rem 146 false false v16 v17 h fun bQ h=>
 jo False .i64 bQ h fun v19 h=>
 κ v19 h)) := by kernel_rfl
def IP (a0:Value) (l1:List Value) (a1:Value) (N0:List Value→Heap→Prop) (v2 v3 v4 v5 v6:Value) (h:Heap) (κ:KQ):Prop :=
 bE False a0 h fun v7 h=>
 fieldAddrB False 4 v7 h fun v8 h=>
 load1 False v8 h fun v9 h=>
 an False 1 v9 (slot l1 26) h fun v10 h=>
 load1 False v10 h fun v11 h=>
 CallW prog 127 [v11,a1] h fun v12 h=>
 aD v12 (
 bE False a0 h fun bI h=>
 fieldAddrB False 4 bI h fun bJ h=>
 load1 False bJ h fun bG h=>
 an False 1 bG (slot l1 26) h fun v16 h=>
 load1 False v16 h fun v17 h=>
 κ v17 h) (
 av False prog .add 3 true false (slot l1 26) (.int .i64 1) h fun bQ h=>
 N0 [(slot l1 26),a0,v2,v3,v4,v5,v6,a0,v7,v8,v9,(slot l1 26),v10,v11,a1,v12,(slot l1 16),(slot l1 17),(slot l1 18),(slot l1 19),(slot l1 20),(slot l1 21),(slot l1 22),(slot l1 23),(slot l1 26),bQ,bQ] h)
def BJ (a0:Value) (l1:List Value) (a1:Value) (N0:List Value→Heap→Prop) (h:Heap) (κ:KQ):Prop :=
 bE False a0 h fun v2 h=>
 fieldAddrB False 4 v2 h fun v3 h=>
 load1 False v3 h fun v4 h=>
 bh False v4 h fun v5 h=>
 av False prog .lss 3 false false (slot l1 26) v5 h fun v6 h=>
 aD v6 (
 IP a0 l1 a1 N0 v2 v3 v4 v5 v6 h κ) (
 κ (.pointer none) h)
theorem aan (a0 a1:Value) (h:Heap) (κ:KQ):aJ prog 88 [a0,a1] h κ = (
 bV [undef,undef,undef,undef,undef,undef,undef,undef,undef,undef,undef,undef,undef,undef,undef,undef,undef,undef,undef,undef,undef,undef,undef,(.pointer none),undef,undef,(.int .i64 0)] h fun l1 h N0=>
 BJ a0 l1 a1 N0 h κ) := by kernel_rfl
def IQ (a0 v4 a1:Value) (b1 b3:Nat) (h:Heap) (κ:KQ):Prop :=
 bE False a0 h fun v12 h=>
 fieldAddrB False 2 v12 h fun bI h=>
 load1 False bI h fun bJ h=>
 an False 4 bJ v4 h fun bG h=>
 ax False 4 bG h fun v16 h=>
 CallW prog 129 [v16,a1] h fun v17 h=>
 au False 0 v17 h fun bQ h=>
 au False 1 v17 h fun v19 h=>
 ay False [(.int .i64 0),(.int .i64 0),(.int .i64 0),(.int .i64 0),(.int .i64 0)] 54 false fun o20 => ai False o20 h fun LD h=>
 aF False 5 (ptrTo LD) bQ h fun v22 h=>
 aI (some a0) h fun v23 h=>
 aI (bE none v23 h fun v _=>some v) h fun v24 h=>
 aI (fieldAddrB none 2 v24 h fun v _=>some v) h fun v25 h=>
 aI (load1 none v25 h fun v _=>some v) h fun v26 h=>
 aI (some v4) h fun v27 h=>
 aI (an none 4 v26 v27 h fun v _=>some v) h fun v28 h=>
 aI (fieldAddrB none 0 v28 h fun v _=>some v) h fun gN h=>
 aI (ax none 2 gN h fun v _=>some v) h fun v30 h=>
 aI (ax none 5 (ptrTo LD) h fun v _=>some v) h fun v31 h=>
 aF False 2 (ptrTo b1) v30 h fun v32 h=>
 dI ((gM (ax none 5 (ptrTo LD) h fun v _=>some v) v31) && true) (aF False 5 (ptrTo b3) v31 h fun v33 h=>
 ax False 2 (ptrTo b1) h fun ja _ => ax False 5 (ptrTo b3) h fun v35 _ => κ (Value.tuple (Array.mk [ja,v35,(.bool true)])) h)
theorem aao (a0 a1:Value) (h:Heap) (κ:KQ):aJ prog 89 [a0,a1] h κ = (
 ay False [(.int .i64 0),(.int .i64 0)] 24 false fun o0 => ai False o0 h fun b1 h=>
 ay False [(.int .i64 0),(.int .i64 0),(.int .i64 0),(.int .i64 0),(.int .i64 0)] 54 false fun o2 => ai False o2 h fun b3 h=>
 CallW prog 128 [a0,a1] h fun v4 h=>
 av False prog .lss 3 true false v4 (.int .i64 0) h fun v5 h=>
 aD v5 (
 bC False [] [] [(.int .i64 0),(.int .i64 0)] fun Ni=>
 bC False [] [] [(.int .i64 0),(.int .i64 0),(.int .i64 0),(.int .i64 0),(.int .i64 0)] fun Kn=>
 aF False 2 (ptrTo b1) (Value.agg (Array.mk Ni)) h fun v8 h=>
 aF False 5 (ptrTo b3) (Value.agg (Array.mk Kn)) h fun v9 h=>
 ax False 2 (ptrTo b1) h fun v10 _ => ax False 5 (ptrTo b3) h fun v11 _ => κ (Value.tuple (Array.mk [v10,v11,(.bool false)])) h) (
 IQ a0 v4 a1 b1 b3 h κ)) := by kernel_rfl
def IS (v12 bQ:Value) (h:Heap) (κ:KQ):Prop :=
 bE False v12 h fun v20 h=>
 fieldAddrB False 2 v20 h fun v21 h=>
 load1 False v21 h fun v22 h=>
 an False 5 v22 bQ h fun v23 h=>
 fieldAddrB False 0 v23 h fun v24 h=>
 load1 False v24 h fun v25 h=>
 κ (Value.tuple (Array.mk [v25,(.bool true)])) h
def IT (v12:Value) (b3:Nat) (h:Heap) (κ:KQ):Prop :=
 bE False v12 h fun bG h=>
 fieldAddrB False 2 bG h fun v16 h=>
 load1 False v16 h fun v17 h=>
 CallW prog 130 [v17,(Value.func (.func 131) (Array.mk []) (Array.mk [(ptrTo b3)]))] h fun bQ h=>
 av False prog .lss 3 true false bQ (.int .i64 0) h fun v19 h=>
 aD v19 (
 κ (Value.tuple (Array.mk [(.int .i64 0),(.bool false)])) h) (
 IS v12 bQ h κ)
def BK (a0:Value) (b1 b3:Nat) (h:Heap) (κ:KQ):Prop :=
 aI (some a0) h fun v5 h=>
 aI (bE none v5 h fun v _=>some v) h fun v6 h=>
 aI (fieldAddrB none 2 v6 h fun v _=>some v) h fun v7 h=>
 aI (load1 none v7 h fun v _=>some v) h fun v8 h=>
 aI (ax none 2 (ptrTo b1) h fun v _=>some v) h fun v9 h=>
 aI (eo none prog 24 (.pointer none) true v8 v9 h fun v _=>some v) h fun v10 h=>
 aI (some v10) h fun v11 h=>
 aI (au none 0 v11 h fun v _=>some v) h fun v12 h=>
 aI (au none 1 v11 h fun v _=>some v) h fun bI h=>
 dI ((gM (au none 1 v11 h fun v _=>some v) bI) && true) (jJ False .not bI h fun bJ h=>
 aD bJ (
 κ (Value.tuple (Array.mk [(.int .i64 0),(.bool false)])) h) (
 IT v12 b3 h κ))
theorem aap (a0 a1 a2:Value) (h:Heap) (κ:KQ):aJ prog 90 [a0,a1,a2] h κ = (
 ay False (Value.cells a1).toList 24 false fun o0 => ai False o0 h fun b1 h=>
 ay False (Value.cells a2).toList 3 false fun o2 => ai False o2 h fun b3 h=>
 av False prog .eql 89 true false a0 (.pointer none) h fun v4 h=>
 aD v4 (
 κ (Value.tuple (Array.mk [(.int .i64 0),(.bool false)])) h) (
 BK a0 b1 b3 h κ)) := by kernel_rfl
def IU (a0 v4:Value) (l8:List Value) (h:Heap) (κ:KQ):Prop :=
 bE False a0 h fun v27 h=>
 fieldAddrB False 2 v27 h fun v28 h=>
 load1 False v28 h fun gN h=>
 an False 4 gN v4 h fun v30 h=>
 fieldAddrB False 2 v30 h fun v31 h=>
 load1 False v31 h fun v32 h=>
 an False 5 v32 (slot l8 41) h fun v33 h=>
 fieldAddrB False 0 v33 h fun ja h=>
 load1 False ja h fun v35 h=>
 κ (Value.tuple (Array.mk [v35,(.bool true)])) h
def BL (a0 v4:Value) (l8:List Value) (a2:Value) (N7:List Value→Heap→Prop) (v9 v10 v11 v12 bI bJ bG v16:Value) (h:Heap) (κ:KQ):Prop :=
 bE False a0 h fun v17 h=>
 fieldAddrB False 2 v17 h fun bQ h=>
 load1 False bQ h fun v19 h=>
 an False 4 v19 v4 h fun v20 h=>
 fieldAddrB False 2 v20 h fun v21 h=>
 load1 False v21 h fun v22 h=>
 an False 5 v22 (slot l8 41) h fun v23 h=>
 fieldAddrB False 1 v23 h fun v24 h=>
 load1 False v24 h fun v25 h=>
 av False prog .eql 3 false false v25 a2 h fun v26 h=>
 aD v26 (
 IU a0 v4 l8 h κ) (
 av False prog .add 3 true false (slot l8 41) (.int .i64 1) h fun h_ h=>
 N7 [(slot l8 41),a0,v9,v10,v11,v4,v12,bI,bJ,bG,v16,a0,v17,bQ,v19,v4,v20,v21,v22,(slot l8 41),v23,v24,v25,a2,v26,(slot l8 25),(slot l8 26),(slot l8 27),(slot l8 28),(slot l8 29),(slot l8 30),(slot l8 31),(slot l8 32),(slot l8 33),(slot l8 34),(slot l8 35),(slot l8 36),(slot l8 37),(slot l8 38),(slot l8 41),h_,h_] h)
def vQ (a0 v4:Value) (l8:List Value) (a2:Value) (N7:List Value→Heap→Prop) (h:Heap) (κ:KQ):Prop :=
 bE False a0 h fun v9 h=>
 fieldAddrB False 2 v9 h fun v10 h=>
 load1 False v10 h fun v11 h=>
 an False 4 v11 v4 h fun v12 h=>
 fieldAddrB False 2 v12 h fun bI h=>
 load1 False bI h fun bJ h=>
 bh False bJ h fun bG h=>
 av False prog .lss 3 false false (slot l8 41) bG h fun v16 h=>
 aD v16 (
 BL a0 v4 l8 a2 N7 v9 v10 v11 v12 bI bJ bG v16 h κ) (
 κ (Value.tuple (Array.mk [(.int .i64 0),(.bool false)])) h)
theorem aaq (a0 a1 a2:Value) (h:Heap) (κ:KQ):aJ prog 91 [a0,a1,a2] h κ = (
 ay False (Value.cells a1).toList 24 false fun o0 => ai False o0 h fun b1 h=>
 ax False 2 (ptrTo b1) h fun v2 h=>
 CallW prog 132 [a0,v2] h fun v3 h=>
 au False 0 v3 h fun v4 h=>
 au False 1 v3 h fun v5 h=>
 jJ False .not v5 h fun v6 h=>
 aD v6 (
 κ (Value.tuple (Array.mk [(.int .i64 0),(.bool false)])) h) (
 bV [undef,undef,undef,undef,undef,undef,undef,undef,undef,undef,undef,undef,undef,undef,undef,undef,undef,undef,undef,undef,undef,undef,undef,undef,undef,undef,undef,undef,undef,undef,undef,undef,undef,undef,undef,undef,undef,(.int .i64 0),(.bool false),undef,undef,(.int .i64 0)] h fun l8 h N7=>
 vQ a0 v4 l8 a2 N7 h κ)) := by kernel_rfl
theorem aar (a0:Value) (h:Heap) (κ:KQ):aJ prog 92 [a0] h κ = (
 bE False a0 h fun v0 h=>
 fieldAddrB False 2 v0 h fun v1 h=>
 load1 False v1 h fun v2 h=>
 bh False v2 h fun v3 h=>
 κ v3 h) := by kernel_rfl
theorem aas (a0:Value) (h:Heap) (κ:KQ):aJ prog 93 [a0] h κ = (
 CallW prog 133 [a0] h fun v0 h=>
 bh False v0 h fun v1 h=>
 κ v1 h) := by kernel_rfl
theorem aat (h:Heap) (κ:KQ):aJ prog 94 [] h κ = (
 ay False [(.int .i64 0),(.int .i64 0)] 24 false fun o0 => ai False o0 h fun b1 h=>
 bC False [(0,1),(1,1)] [(.int .i64 (-1)),(.int .i64 (-1))] [(.int .i64 0),(.int .i64 0)] fun cs2=>
 aF False 2 (ptrTo b1) (Value.agg (Array.mk cs2)) h fun v3 h=>
 ax False 2 (ptrTo b1) h fun v4 _ => κ v4 h) := by kernel_rfl
theorem aav (a0 a1:Value) (h:Heap) (κ:KQ):aJ prog 95 [a0,a1] h κ = (
 CallI prog "Push" a0 [a1] h fun v0 h=>
 CallI prog "Len" a0 [] h fun v1 h=>
 av False prog .sub 3 true false v1 (.int .i64 1) h fun v2 h=>
 CallW prog 134 [a0,v2] h fun v3 h=>
 κ (Value.tuple (Array.mk [])) h) := by kernel_rfl
theorem aaw (a0:Value) (h:Heap) (κ:KQ):aJ prog 96 [a0] h κ = (
 av False prog .geq 33 true false a0 (.int .i64 0) h fun v0 h=>
 ag (ah v0 true) (fun K1=>
 K1 a0 h) h fun v2 h=>
 ag (ah v0 true) (fun K3=>
 av False prog .leq 33 true false v2 (.int .i64 6) h K3) h fun v4 h=>
 bt False v0 v4 (.bool false) h fun v5 h=>
 κ v5 h) := by kernel_rfl
def IV (a0:Value) (h:Heap) (κ:KQ):Prop :=
 bE False a0 h fun v7 h=>
 fieldAddrB False 0 v7 h fun v8 h=>
 CallW prog 135 [(Value.iface 134 v8)] h fun v9 h=>
 ep False 3 (.int .i64 0) true v9 h fun v10 h=>
 au False 0 v10 h fun v11 h=>
 au False 1 v10 h fun v12 h=>
 bE False a0 h fun bI h=>
 fieldAddrB False 1 bI h fun bJ h=>
 load1 False bJ h fun bG h=>
 an False 1 bG v11 h fun v16 h=>
 aF False 1 v16 (.bool true) h fun v17 h=>
 κ (Value.tuple (Array.mk [v11,(.int .i64 0)])) h
def IW (a0:Value) (h:Heap) (κ:KQ):Prop :=
 bE False a0 h fun v1 h=>
 fieldAddrB False 0 v1 h fun v2 h=>
 fieldAddrB False 0 v2 h fun v3 h=>
 load1 False v3 h fun v4 h=>
 CallW prog 118 [v4] h fun v5 h=>
 av False prog .eql 3 true false v5 (.int .i64 0) h fun v6 h=>
 aD v6 (
 κ (Value.tuple (Array.mk [(.int .i64 0),(.int .i64 8)])) h) (
 IV a0 h κ)
theorem aax (a0:Value) (h:Heap) (κ:KQ):aJ prog 97 [a0] h κ = (
 av False prog .eql 82 true false a0 (.pointer none) h fun v0 h=>
 aD v0 (
 κ (Value.tuple (Array.mk [(.int .i64 0),(.int .i64 1)])) h) (
 IW a0 h κ)) := by kernel_rfl
def BM (yW Kq:Nat) (PD:List Value→Heap→Prop) (v46:Value) (h:Heap):Prop :=
 fieldAddrB False 0 (ptrTo yW) h fun v51 h=>
 fieldAddrB False 3 v51 h fun lQ h=>
 load1 False lQ h fun v53 h=>
 av False prog .add 3 true false v53 (.int .i64 1) h fun v54 h=>
 fieldAddrB False 0 (ptrTo yW) h fun v55 h=>
 fieldAddrB False 3 v55 h fun qN h=>
 aF False 1 qN v54 h fun oc h=>
 fieldAddrB False 0 (ptrTo yW) h fun v58 h=>
 fieldAddrB False 3 v58 h fun v59 h=>
 load1 False v59 h fun v60 h=>
 fieldAddrB False 4 (ptrTo Kq) h fun qo h=>
 aF False 1 qo v60 h fun sn h=>
 PD [v46,undef,undef,v51,lQ,v53,v54,v55,qN,v58,v59,v60,qo] h
def vR (yW Kq b7:Nat) (v46:Value) (h:Heap) (κ:KQ):Prop :=
 fieldAddrB False 0 (ptrTo yW) h fun rM h=>
 fieldAddrB False 2 rM h fun v64 h=>
 load1 False v64 h fun mh h=>
 ax False 5 (ptrTo Kq) h fun v66 h=>
 bC False [(0,5)] [v66] (aY [(.int .i64 0),(.int .i64 0),(.int .i64 0),(.int .i64 0),(.int .i64 0)] 1) fun ae5 => ay False ae5 54 false fun o67 => ai False o67 h fun b68 h=>
 bB False 54 5 [(.int .i64 0),(.int .i64 0),(.int .i64 0),(.int .i64 0),(.int .i64 0)] false mh (sliceTo 1 1 b68) h fun v70 h=>
 fieldAddrB False 0 (ptrTo yW) h fun zo h=>
 fieldAddrB False 2 zo h fun v72 h=>
 aF False 1 v72 v70 h fun Ic h=>
 fieldAddrB False 0 (ptrTo yW) h fun sk h=>
 ax False 4 sk h fun v75 h=>
 aF False 4 (ptrTo b7) v75 h fun v76 h=>
 ax False 4 (ptrTo b7) h fun v77 _ => κ (Value.tuple (Array.mk [v77,v46,(.int .i64 0)])) h
def IX (b1 b3 b5:Nat) (a3:Value) (b7:Nat) (h:Heap) (κ:KQ):Prop :=
 ax False 4 (ptrTo b1) h fun v26 h=>
 CallW prog 139 [v26] h fun v27 h=>
 ay False [(.int .i64 0),(.int .i64 0),(.slice none 0 0),(.int .i64 0)] 178 false fun o28 => ai False o28 h fun yW h=>
 aF False 4 (ptrTo yW) v27 h fun v30 h=>
 load1 False (ptrTo b3) h fun v31 h=>
 load1 False (ptrTo b5) h fun v32 h=>
 bC False [(0,1),(1,1),(3,1)] [v31,v32,a3] [(.int .i64 0),(.int .i64 0),(.int .i64 0),(.int .i64 0),(.int .i64 0)] fun UY=>
 ay False [(.int .i64 0),(.int .i64 0),(.int .i64 0),(.int .i64 0),(.int .i64 0)] 54 false fun o34 => ai False o34 h fun Kq h=>
 aF False 5 (ptrTo Kq) (Value.agg (Array.mk UY)) h fun h_ h=>
 ax False 4 (ptrTo yW) h fun v37 h=>
 CallW prog 140 [v37] h fun jZ h=>
 av False prog .lss 3 true false jZ (.int .i64 0) h fun v39 h=>
 ag (ah v39 true) (fun Nc=>
 ax False 4 (ptrTo yW) h Nc) h fun v41 h=>
 ag (ah v39 true) (fun Nd=>
 ax False 5 (ptrTo Kq) h Nd) h fun j7 h=>
 ag (ah v39 true) (fun Nf=>
 CallW prog 141 [v41,j7] h Nf) h fun v45 h=>
 bt False v39 v45 (.bool false) h fun v46 h=>
 dN (fun PD=>
 aD v46 (
 fieldAddrB False 2 (ptrTo Kq) h fun v49 h=>
 aF False 1 v49 a3 h fun v50 h=>
 PD [v46,a3,v49,undef,undef,undef,undef,undef,undef,undef,undef,undef,undef] h) (
 BM yW Kq PD v46 h)) fun PC h=>
 vR yW Kq b7 v46 h κ
def IY (b1 b3 b5 b7:Nat) (a3:Value) (h:Heap) (κ:KQ):Prop :=
 fieldAddrB False 2 (ptrTo b1) h fun v20 h=>
 load1 False v20 h fun v21 h=>
 CallW prog 137 [v21,(Value.func (.func 138) (Array.mk []) (Array.mk [(ptrTo b3),(ptrTo b5)]))] h fun v22 h=>
 aD v22 (
 bC False [] [] [(.int .i64 0),(.int .i64 0),(.slice none 0 0),(.int .i64 0)] fun UZ=>
 aF False 4 (ptrTo b7) (Value.agg (Array.mk UZ)) h fun v24 h=>
 ax False 4 (ptrTo b7) h fun v25 _ => κ (Value.tuple (Array.mk [v25,(.bool false),(.int .i64 4)])) h) (
 IX b1 b3 b5 a3 b7 h κ)
theorem aay (a0 a1 a2 a3:Value) (h:Heap) (κ:KQ):aJ prog 98 [a0,a1,a2,a3] h κ = (
 ay False (Value.cells a0).toList 51 false fun o0 => ai False o0 h fun b1 h=>
 ay False (Value.cells a1).toList 3 false fun o2 => ai False o2 h fun b3 h=>
 ay False (Value.cells a2).toList 3 false fun o4 => ai False o4 h fun b5 h=>
 ay False [(.int .i64 0),(.int .i64 0),(.slice none 0 0),(.int .i64 0)] 51 false fun o6 => ai False o6 h fun b7 h=>
 load1 False (ptrTo b3) h fun v8 h=>
 av False prog .lss 3 true false v8 (.int .i64 0) h fun v9 h=>
 ag (ah v9 false) (fun yV=>
 yV a3 h) h fun v11 h=>
 ag (ah v9 false) (fun tU=>
 CallW prog 136 [v11] h tU) h fun bI h=>
 ag (ah v9 false) (fun Dl=>
 jJ False .not bI h Dl) h fun bG h=>
 bt False v9 (.bool true) bG h fun v16 h=>
 aD v16 (
 bC False [] [] [(.int .i64 0),(.int .i64 0),(.slice none 0 0),(.int .i64 0)] fun Br=>
 aF False 4 (ptrTo b7) (Value.agg (Array.mk Br)) h fun bQ h=>
 ax False 4 (ptrTo b7) h fun v19 _ => κ (Value.tuple (Array.mk [v19,(.bool false),(.int .i64 2)])) h) (
 IY b1 b3 b5 b7 a3 h κ)) := by kernel_rfl
def IZ (a0:Value) (b1:Nat) (N7:List Value→Heap→Prop) (v9 v10 v11 v12:Value) (h:Heap):Prop :=
 aI (some a0) h fun bI h=>
 aI (bE none bI h fun v _=>some v) h fun bJ h=>
 aI (fieldAddrB none 2 bJ h fun v _=>some v) h fun bG h=>
 aI (load1 none bG h fun v _=>some v) h fun v16 h=>
 aI (fieldAddrB none 0 (ptrTo b1) h fun v _=>some v) h fun v17 h=>
 aI (ax none 2 v17 h fun v _=>some v) h fun bQ h=>
 lU False prog 24 v16 bQ h fun v19 h=>
 N7 [v9,v10,v11,v12,bI,bJ,bG,v16,v17,bQ,undef,undef,undef,undef,undef,undef] h
def I1 (a0:Value) (b1:Nat) (N7:List Value→Heap→Prop) (v9 v10 v11 v12:Value) (h:Heap):Prop :=
 aI (some a0) h fun v20 h=>
 aI (bE none v20 h fun v _=>some v) h fun v21 h=>
 aI (fieldAddrB none 2 v21 h fun v _=>some v) h fun v22 h=>
 aI (load1 none v22 h fun v _=>some v) h fun v23 h=>
 aI (fieldAddrB none 0 (ptrTo b1) h fun v _=>some v) h fun v24 h=>
 aI (ax none 2 v24 h fun v _=>some v) h fun v25 h=>
 dU False prog 24 v23 v25 (ptrTo b1) h fun v26 h=>
 N7 [v9,v10,v11,v12,undef,undef,undef,undef,undef,undef,v20,v21,v22,v23,v24,v25] h
def BN (b1:Nat) (a0:Value) (N7:List Value→Heap→Prop) (h:Heap):Prop :=
 fieldAddrB False 2 (ptrTo b1) h fun v9 h=>
 load1 False v9 h fun v10 h=>
 bh False v10 h fun v11 h=>
 av False prog .eql 3 true false v11 (.int .i64 0) h fun v12 h=>
 aD v12 (
 IZ a0 b1 N7 v9 v10 v11 v12 h) (
 I1 a0 b1 N7 v9 v10 v11 v12 h)
theorem aaz (a0 a1:Value) (h:Heap) (κ:KQ):aJ prog 99 [a0,a1] h κ = (
 ay False (Value.cells a1).toList 51 false fun o0 => ai False o0 h fun b1 h=>
 ax False 4 (ptrTo b1) h fun v2 h=>
 CallW prog 142 [v2] h fun v3 h=>
 au False 0 v3 h fun v4 h=>
 au False 1 v3 h fun v5 h=>
 aF False 4 (ptrTo b1) v4 h fun v6 h=>
 dN (fun N7=>
 BN b1 a0 N7 h) fun l8 h=>
 κ v5 h) := by kernel_rfl
theorem U0 (a0:Value) (h:Heap) (κ:KQ):aJ prog 100 [a0] h κ = (
 av False prog .geq 3 true false a0 (.int .i64 1) h fun v0 h=>
 ag (ah v0 true) (fun K1=>
 K1 a0 h) h fun v2 h=>
 ag (ah v0 true) (fun K3=>
 av False prog .leq 3 true false v2 (.int .i64 16) h K3) h fun v4 h=>
 bt False v0 v4 (.bool false) h fun v5 h=>
 κ v5 h) := by kernel_rfl
theorem U2 (a0:Value) (h:Heap) (κ:KQ):aJ prog 101 [a0] h κ = (
 ay False (Value.cells a0).toList 24 false fun o0 => ai False o0 h fun b1 h=>
 ax False 2 (ptrTo b1) h fun v2 h=>
 CallW prog 143 [v2] h fun v3 h=>
 av False prog .eql 3 true false v3 (.int .i64 (-1)) h fun v4 h=>
 aD v4 (
 κ (.int .i64 2) h) (
 κ (.int .i64 0) h)) := by kernel_rfl
theorem U3 (a0:Value) (h:Heap) (κ:KQ):aJ prog 102 [a0] h κ = (
 ay False (Value.cells a0).toList 24 false fun o0 => ai False o0 h fun b1 h=>
 ax False 2 (ptrTo b1) h fun v2 h=>
 CallW prog 145 [v2] h fun v3 h=>
 CallW prog 144 [v3] h fun v4 h=>
 κ v4 h) := by kernel_rfl
def xz (l3:List Value) (a1 a2 a0:Value) (h:Heap) (κ:KQ):Prop :=
 bE False (slot l3 4) h fun v8 h=>
 ax False 4 v8 h fun v9 h=>
 CallW prog 146 [v9,a1,a2] h fun v10 h=>
 au False 0 v10 h fun v11 h=>
 au False 1 v10 h fun v12 h=>
 au False 2 v10 h fun bI h=>
 ay False [(.int .i64 0),(.int .i64 0),(.slice none 0 0),(.int .i64 0)] 51 false fun UU => ai False UU h fun Iw h=>
 aF False 4 (ptrTo Iw) v11 h fun v16 h=>
 av False prog .neq 26 true false bI (.int .i64 0) h fun v17 h=>
 aD v17 (
 κ (Value.tuple (Array.mk [(.bool false),bI])) h) (
 ax False 4 (ptrTo Iw) h fun bQ h=>
 CallW prog 99 [a0,bQ] h fun v19 h=>
 κ (Value.tuple (Array.mk [v12,(.int .i64 0)])) h)
def Dt (a0 a1 a2:Value) (h:Heap) (κ:KQ):Prop :=
 CallW prog 113 [a0,a1] h fun v1 h=>
 dN (fun N2=>
 av False prog .eql 138 true false v1 (.pointer none) h fun v4 h=>
 aD v4 (
 bC False [] [] [(.int .i64 0),(.int .i64 0),(.slice none 0 0),(.int .i64 0)] fun cs5=>
 ay False (Value.cells (Value.agg (Array.mk cs5))).toList 51 false fun o6 => ai False o6 h fun b7 h=>
 N2 [v1,v4,(Value.agg (Array.mk cs5)),(ptrTo b7),(ptrTo b7)] h) (
 N2 [v1,v4,undef,undef,v1] h)) fun l3 h=>
 xz l3 a1 a2 a0 h κ
theorem U4 (a0 a1 a2:Value) (h:Heap) (κ:KQ):aJ prog 103 [a0,a1,a2] h κ = (
 av False prog .eql 89 true false a0 (.pointer none) h fun v0 h=>
 aD v0 (
 κ (Value.tuple (Array.mk [(.bool false),(.int .i64 1)])) h) (
 Dt a0 a1 a2 h κ)) := by kernel_rfl
def xA (b9:Nat) (a1 a0:Value) (Ko:List Value→Heap→Prop) (h:Heap):Prop :=
 ax False 4 (ptrTo b9) h fun bJ h=>
 CallW prog 119 [bJ,a1] h fun bG h=>
 au False 0 bG h fun v16 h=>
 au False 1 bG h fun v17 h=>
 ay False [(.int .i64 0),(.int .i64 0),(.int .i64 0),(.int .i64 0),(.int .i64 0)] 54 false fun o18 => ai False o18 h fun b19 h=>
 aF False 5 (ptrTo b19) v16 h fun v20 h=>
 jJ False .not v17 h fun v21 h=>
 aD v21 (
 bE False a0 h fun v22 h=>
 fieldAddrB False 1 v22 h fun v23 h=>
 load1 False v23 h fun v24 h=>
 CallW prog 116 [v24,a1] h fun v25 h=>
 Ko [bJ,a1,bG,bG,v16,v17,(ptrTo b19),v17,v17,v21,a0,v22,v23,v24,a1,v25] h) (
 Ko [bJ,a1,bG,bG,v16,v17,(ptrTo b19),v17,v17,v21,undef,undef,undef,undef,undef,undef] h)
def Du (v0 a1 a0:Value) (h:Heap) (κ:KQ):Prop :=
 bE False v0 h fun v3 h=>
 ax False 4 v3 h fun v4 h=>
 CallW prog 147 [v4,a1] h fun v5 h=>
 au False 0 v5 h fun v6 h=>
 au False 1 v5 h fun v7 h=>
 ay False [(.int .i64 0),(.int .i64 0),(.slice none 0 0),(.int .i64 0)] 51 false fun o8 => ai False o8 h fun b9 h=>
 aF False 4 (ptrTo b9) v6 h fun v10 h=>
 av False prog .neq 26 true false v7 (.int .i64 0) h fun v11 h=>
 aD v11 (
 κ (Value.tuple (Array.mk [(.slice none 0 0),v7])) h) (
 dN (fun Ko=>
 xA b9 a1 a0 Ko h) fun l13 h=>
 ax False 4 (ptrTo b9) h fun v26 h=>
 CallW prog 99 [a0,v26] h fun v27 h=>
 κ (Value.tuple (Array.mk [v27,(.int .i64 0)])) h)
theorem U5 (a0 a1:Value) (h:Heap) (κ:KQ):aJ prog 104 [a0,a1] h κ = (
 CallW prog 113 [a0,a1] h fun v0 h=>
 av False prog .eql 138 true false v0 (.pointer none) h fun v1 h=>
 aD v1 (
 CallW prog 114 [a0] h fun v2 h=>
 κ (Value.tuple (Array.mk [(.slice none 0 0),v2])) h) (
 Du v0 a1 a0 h κ)) := by kernel_rfl
def Dv (v0 a1 a2 a0:Value) (h:Heap) (κ:KQ):Prop :=
 bE False v0 h fun v3 h=>
 ax False 4 v3 h fun v4 h=>
 CallW prog 148 [v4,a1,a2] h fun v5 h=>
 au False 0 v5 h fun v6 h=>
 au False 1 v5 h fun v7 h=>
 ay False [(.int .i64 0),(.int .i64 0),(.slice none 0 0),(.int .i64 0)] 51 false fun o8 => ai False o8 h fun b9 h=>
 aF False 4 (ptrTo b9) v6 h fun v10 h=>
 dN (fun N11=>
 av False prog .eql 26 true false v7 (.int .i64 0) h fun bI h=>
 aD bI (
 ax False 4 (ptrTo b9) h fun bJ h=>
 CallW prog 99 [a0,bJ] h fun bG h=>
 N11 [v7,bI,a0,bJ,bG] h) (
 N11 [v7,bI,undef,undef,undef] h)) fun l12 h=>
 κ v7 h
theorem U6 (a0 a1 a2:Value) (h:Heap) (κ:KQ):aJ prog 105 [a0,a1,a2] h κ = (
 CallW prog 113 [a0,a1] h fun v0 h=>
 av False prog .eql 138 true false v0 (.pointer none) h fun v1 h=>
 aD v1 (
 CallW prog 114 [a0] h fun v2 h=>
 κ v2 h) (
 Dv v0 a1 a2 a0 h κ)) := by kernel_rfl
theorem U7 (a0:Value) (h:Heap) (κ:KQ):aJ prog 106 [a0] h κ = (
 bE False a0 h fun v0 h=>
 fieldAddrB False 2 v0 h fun v1 h=>
 load1 False v1 h fun v2 h=>
 CallW prog 150 [v2] h fun v3 h=>
 CallW prog 149 [v3,(Value.func (.func 54) (Array.mk []) (Array.mk []))] h fun v4 h=>
 κ v4 h) := by kernel_rfl
theorem U8 (a0:Value) (h:Heap) (κ:KQ):aJ prog 111 [a0] h κ = (
 av False prog .neq 3 false false a0 a0 h fun v0 h=>
 κ v0 h) := by kernel_rfl
theorem U9 (a0 a1:Value) (h:Heap) (κ:KQ):aJ prog 112 [a0,a1] h κ = (
 av False prog .neq 82 true false a0 (.pointer none) h fun v0 h=>
 ag (ah v0 true) (fun K1=>
 K1 a1 h) h fun v2 h=>
 ag (ah v0 true) (fun K3=>
 av False prog .geq 3 true false v2 (.int .i64 0) h K3) h fun v4 h=>
 bt False v0 v4 (.bool false) h fun v5 h=>
 ag (ah v5 true) (fun K6=>
 K6 a1 h) h fun v7 h=>
 ag (ah v5 true) (fun K8=>
 K8 a0 h) h fun v9 h=>
 ag (ah v5 true) (fun yV=>
 bE False v9 h yV) h fun v11 h=>
 ag (ah v5 true) (fun tU=>
 fieldAddrB False 1 v11 h tU) h fun bI h=>
 ag (ah v5 true) (fun Dl=>
 load1 False bI h Dl) h fun bG h=>
 ag (ah v5 true) (fun F6=>
 bh False bG h F6) h fun v17 h=>
 ag (ah v5 true) (fun Kp=>
 av False prog .lss 3 false false v7 v17 h Kp) h fun v19 h=>
 bt False v5 v19 (.bool false) h fun v20 h=>
 ag (ah v20 true) (fun xu=>
 xu a0 h) h fun v22 h=>
 ag (ah v20 true) (fun xw=>
 bE False v22 h xw) h fun v24 h=>
 ag (ah v20 true) (fun Dp=>
 fieldAddrB False 1 v24 h Dp) h fun v26 h=>
 ag (ah v20 true) (fun Bj=>
 load1 False v26 h Bj) h fun v28 h=>
 ag (ah v20 true) (fun Bk=>
 Bk a1 h) h fun v30 h=>
 ag (ah v20 true) (fun Dq=>
 an False 1 v28 v30 h Dq) h fun v32 h=>
 ag (ah v20 true) (fun Kj=>
 load1 False v32 h Kj) h fun ja h=>
 bt False v20 ja (.bool false) h fun v35 h=>
 κ v35 h) := by kernel_rfl
def Dw (v4 a1:Value) (N5:List Value→Heap→Prop) (v7 v8:Value) (l6:List Value) (h:Heap) (κ:KQ):Prop :=
 nH False v4 h fun v9 h=>
 au False 1 v9 h fun v10 h=>
 bE False v10 h fun v11 h=>
 ax False 4 v11 h fun v12 h=>
 CallW prog 119 [v12,a1] h fun bI h=>
 au False 0 bI h fun bJ h=>
 au False 1 bI h fun bG h=>
 ay False [(.int .i64 0),(.int .i64 0),(.int .i64 0),(.int .i64 0),(.int .i64 0)] 54 false fun o16 => ai False o16 h fun b17 h=>
 aF False 5 (ptrTo b17) bJ h fun bQ h=>
 aD bG (
 κ v10 h) (
 N5 [v7,v8,v9,v10,v10,v10,v11,v12,a1,bI,bI,bJ,bG,(ptrTo b17),bG,bG,(slot l6 16),(slot l6 17)] h)
def Dx (a0 a1:Value) (h:Heap) (κ:KQ):Prop :=
 bE False a0 h fun v1 h=>
 fieldAddrB False 2 v1 h fun v2 h=>
 load1 False v2 h fun v3 h=>
 nG False v3 h fun v4 h=>
 bV [undef,undef,undef,undef,undef,undef,undef,undef,undef,undef,undef,undef,undef,undef,undef,undef,undef,(.pointer none)] h fun l6 h N5=>
 qD False And v4 h fun v7 h=>
 au False 0 v7 h fun v8 h=>
 aD v8 (
 Dw v4 a1 N5 v7 v8 l6 h κ) (
 κ (.pointer none) h)
theorem Nk (a0 a1:Value) (h:Heap) (κ:KQ):aJ prog 113 [a0,a1] h κ = (
 av False prog .eql 89 true false a0 (.pointer none) h fun v0 h=>
 aD v0 (
 κ (.pointer none) h) (
 Dx a0 a1 h κ)) := by kernel_rfl
theorem U_ (a0:Value) (h:Heap) (κ:KQ):aJ prog 114 [a0] h κ = (
 av False prog .eql 89 true false a0 (.pointer none) h fun v0 h=>
 aD v0 (
 κ (.int .i64 1) h) (
 κ (.int .i64 5) h)) := by kernel_rfl
theorem Va (a0 a1:Value) (h:Heap) (κ:KQ):aJ prog 115 [a0,a1] h κ = (
 ay False (Value.cells a0).toList 51 false fun o0 => ai False o0 h fun b1 h=>
 ay False [(.int .i64 0),(.int .i64 0),(.slice none 0 0),(.int .i64 0)] 51 false fun o2 => ai False o2 h fun b3 h=>
 ax False 4 (ptrTo b1) h fun v4 h=>
 CallW prog 139 [v4] h fun v5 h=>
 ay False [(.int .i64 0),(.int .i64 0),(.slice none 0 0),(.int .i64 0)] 178 false fun o6 => ai False o6 h fun b7 h=>
 aF False 4 (ptrTo b7) v5 h fun v8 h=>
 ax False 4 (ptrTo b7) h fun v9 h=>
 CallW prog 169 [v9,a1] h fun v10 h=>
 av False prog .lss 3 true false v10 (.int .i64 0) h fun v11 h=>
 aD v11 (
 bC False [] [] [(.int .i64 0),(.int .i64 0),(.slice none 0 0),(.int .i64 0)] fun F9=>
 aF False 4 (ptrTo b3) (Value.agg (Array.mk F9)) h fun bI h=>
 ax False 4 (ptrTo b3) h fun bJ _ => κ (Value.tuple (Array.mk [bJ,(.int .i64 5)])) h) (
 ax False 4 (ptrTo b7) h fun bG h=>
 CallW prog 170 [bG,a1] h fun v16 h=>
 aF False 4 (ptrTo b3) v16 h fun v17 h=>
 ax False 4 (ptrTo b3) h fun bQ _ => κ (Value.tuple (Array.mk [bQ,(.int .i64 0)])) h)) := by kernel_rfl
def Dy (a0 a1:Value) (h:Heap) (κ:KQ):Prop :=
 bE False a0 h fun v3 h=>
 fieldAddrB False 1 v3 h fun v4 h=>
 load1 False v4 h fun v5 h=>
 an False 1 v5 a1 h fun v6 h=>
 aF False 1 v6 (.bool false) h fun v7 h=>
 bE False a0 h fun v8 h=>
 fieldAddrB False 0 v8 h fun v9 h=>
 CallW prog 95 [(Value.iface 134 v9),(Value.iface 3 a1)] h fun v10 h=>
 κ (.int .i64 0) h
theorem Vb (a0 a1:Value) (h:Heap) (κ:KQ):aJ prog 116 [a0,a1] h κ = (
 av False prog .eql 82 true false a0 (.pointer none) h fun v0 h=>
 aD v0 (
 κ (.int .i64 1) h) (
 CallW prog 112 [a0,a1] h fun v1 h=>
 jJ False .not v1 h fun v2 h=>
 aD v2 (
 κ (.int .i64 5) h) (
 Dy a0 a1 h κ))) := by kernel_rfl
theorem Vc (a0:Value) (h:Heap) (κ:KQ):aJ prog 118 [a0] h κ = (
 bh False a0 h fun v0 h=>
 κ v0 h) := by kernel_rfl
theorem Vd (a0 a1:Value) (h:Heap) (κ:KQ):aJ prog 119 [a0,a1] h κ = (
 ay False (Value.cells a0).toList 51 false fun o0 => ai False o0 h fun b1 h=>
 ay False [(.int .i64 0),(.int .i64 0),(.int .i64 0),(.int .i64 0),(.int .i64 0)] 54 false fun o2 => ai False o2 h fun b3 h=>
 ax False 4 (ptrTo b1) h fun v4 h=>
 bC False [(0,4)] [v4] [(.int .i64 0),(.int .i64 0),(.slice none 0 0),(.int .i64 0)] fun cs5=>
 CallW prog 169 [(Value.agg (Array.mk cs5)),a1] h fun v6 h=>
 av False prog .lss 3 true false v6 (.int .i64 0) h fun v7 h=>
 aD v7 (
 bC False [] [] [(.int .i64 0),(.int .i64 0),(.int .i64 0),(.int .i64 0),(.int .i64 0)] fun cs8=>
 aF False 5 (ptrTo b3) (Value.agg (Array.mk cs8)) h fun v9 h=>
 ax False 5 (ptrTo b3) h fun v10 _ => κ (Value.tuple (Array.mk [v10,(.bool false)])) h) (
 fieldAddrB False 2 (ptrTo b1) h fun v11 h=>
 load1 False v11 h fun v12 h=>
 an False 5 v12 v6 h fun bI h=>
 ax False 5 bI h fun bJ h=>
 aF False 5 (ptrTo b3) bJ h fun bG h=>
 ax False 5 (ptrTo b3) h fun v16 _ => κ (Value.tuple (Array.mk [v16,(.bool true)])) h)) := by kernel_rfl
def Dz (a0 v0:Value) (XL:Nat) (v17:Value) (h:Heap) (κ:KQ):Prop :=
 aI (some a0) h fun v23 h=>
 aI (bE none v23 h fun v _=>some v) h fun v24 h=>
 aI (fieldAddrB none 2 v24 h fun v _=>some v) h fun v25 h=>
 aI (load1 none v25 h fun v _=>some v) h fun v26 h=>
 aI (some v0) h fun v27 h=>
 aI (ax none 4 (ptrTo XL) h fun v _=>some v) h fun v28 h=>
 aI (an none 4 v26 v27 h fun v _=>some v) h fun gN h=>
 aF False 4 gN v28 h fun v30 h=>
 κ (Value.tuple (Array.mk [v17,(.int .i64 0)])) h
def DA (a1 a2:Value) (h:Heap) (κ:KQ):Prop :=
 bC False [] [] [(.int .i64 0),(.int .i64 0),(.slice none 0 0),(.int .i64 0)] fun cs2=>
 CallW prog 172 [(Value.agg (Array.mk cs2)),a1,a2] h fun v3 h=>
 au False 0 v3 h fun v4 h=>
 au False 1 v3 h fun v5 h=>
 au False 2 v3 h fun v6 h=>
 ay False [(.int .i64 0),(.int .i64 0),(.slice none 0 0),(.int .i64 0)] 51 false fun o7 => ai False o7 h fun b8 h=>
 aF False 4 (ptrTo b8) v4 h fun v9 h=>
 κ (Value.tuple (Array.mk [(.bool false),v6])) h
def DB (a0 v0 a1 a2:Value) (h:Heap) (κ:KQ):Prop :=
 bE False a0 h fun v10 h=>
 fieldAddrB False 2 v10 h fun v11 h=>
 load1 False v11 h fun v12 h=>
 an False 4 v12 v0 h fun bI h=>
 ax False 4 bI h fun bJ h=>
 CallW prog 172 [bJ,a1,a2] h fun bG h=>
 au False 0 bG h fun v16 h=>
 au False 1 bG h fun v17 h=>
 au False 2 bG h fun bQ h=>
 ay False [(.int .i64 0),(.int .i64 0),(.slice none 0 0),(.int .i64 0)] 51 false fun o19 => ai False o19 h fun XL h=>
 aF False 4 (ptrTo XL) v16 h fun v21 h=>
 av False prog .neq 26 true false bQ (.int .i64 0) h fun v22 h=>
 aD v22 (
 κ (Value.tuple (Array.mk [(.bool false),bQ])) h) (
 Dz a0 v0 XL v17 h κ)
theorem Ve (a0 a1 a2:Value) (h:Heap) (κ:KQ):aJ prog 120 [a0,a1,a2] h κ = (
 CallW prog 128 [a0,a1] h fun v0 h=>
 av False prog .lss 3 true false v0 (.int .i64 0) h fun v1 h=>
 aD v1 (
 DA a1 a2 h κ) (
 DB a0 v0 a1 a2 h κ)) := by kernel_rfl
def DC (a0 v0 a1:Value) (h:Heap) (κ:KQ):Prop :=
 bE False a0 h fun v2 h=>
 fieldAddrB False 2 v2 h fun v3 h=>
 load1 False v3 h fun v4 h=>
 an False 4 v4 v0 h fun v5 h=>
 ax False 4 v5 h fun v6 h=>
 CallW prog 173 [v6,a1] h fun v7 h=>
 au False 0 v7 h fun v8 h=>
 au False 1 v7 h fun v9 h=>
 ay False [(.int .i64 0),(.int .i64 0),(.slice none 0 0),(.int .i64 0)] 51 false fun Nj => ai False Nj h fun o_ h=>
 aF False 4 (ptrTo o_) v8 h fun v12 h=>
 bE False a0 h fun bI h=>
 fieldAddrB False 1 bI h fun bJ h=>
 load1 False bJ h fun bG h=>
 CallW prog 174 [bG,a1] h fun v16 h=>
 ax False 4 (ptrTo o_) h fun v17 h=>
 CallW prog 175 [a0,v0,v17] h fun bQ h=>
 κ (Value.tuple (Array.mk [bQ,(.int .i64 0)])) h
theorem Vf (a0 a1:Value) (h:Heap) (κ:KQ):aJ prog 121 [a0,a1] h κ = (
 CallW prog 128 [a0,a1] h fun v0 h=>
 av False prog .lss 3 true false v0 (.int .i64 0) h fun v1 h=>
 aD v1 (
 κ (Value.tuple (Array.mk [(.slice none 0 0),(.int .i64 5)])) h) (
 DC a0 v0 a1 h κ)) := by kernel_rfl
def xB (v17 a0 a1:Value) (Kh:List Value→Heap→Prop) (h:Heap):Prop :=
 jJ False .not v17 h fun v23 h=>
 aD v23 (
 bE False a0 h fun v24 h=>
 fieldAddrB False 1 v24 h fun v25 h=>
 load1 False v25 h fun v26 h=>
 CallW prog 174 [v26,a1] h fun v27 h=>
 Kh [v17,v23,a0,v24,v25,v26,a1,v27] h) (
 Kh [v17,v23,undef,undef,undef,undef,undef,undef] h)
def xC (o_:Nat) (a1 a0 v0:Value) (h:Heap) (κ:KQ):Prop :=
 ax False 4 (ptrTo o_) h fun bJ h=>
 CallW prog 129 [bJ,a1] h fun bG h=>
 au False 0 bG h fun v16 h=>
 au False 1 bG h fun v17 h=>
 ay False [(.int .i64 0),(.int .i64 0),(.int .i64 0),(.int .i64 0),(.int .i64 0)] 54 false fun o18 => ai False o18 h fun b19 h=>
 aF False 5 (ptrTo b19) v16 h fun v20 h=>
 dN (fun Kh=>
 xB v17 a0 a1 Kh h) fun Ki h=>
 ax False 4 (ptrTo o_) h fun v28 h=>
 CallW prog 175 [a0,v0,v28] h fun gN h=>
 κ (Value.tuple (Array.mk [gN,(.int .i64 0)])) h
def DD (a0 v0 a1:Value) (h:Heap) (κ:KQ):Prop :=
 bE False a0 h fun v2 h=>
 fieldAddrB False 2 v2 h fun v3 h=>
 load1 False v3 h fun v4 h=>
 an False 4 v4 v0 h fun v5 h=>
 ax False 4 v5 h fun v6 h=>
 CallW prog 176 [v6,a1] h fun v7 h=>
 au False 0 v7 h fun v8 h=>
 au False 1 v7 h fun v9 h=>
 ay False [(.int .i64 0),(.int .i64 0),(.slice none 0 0),(.int .i64 0)] 51 false fun Nj => ai False Nj h fun o_ h=>
 aF False 4 (ptrTo o_) v8 h fun v12 h=>
 av False prog .neq 26 true false v9 (.int .i64 0) h fun bI h=>
 aD bI (
 κ (Value.tuple (Array.mk [(.slice none 0 0),v9])) h) (
 xC o_ a1 a0 v0 h κ)
theorem Vg (a0 a1:Value) (h:Heap) (κ:KQ):aJ prog 122 [a0,a1] h κ = (
 CallW prog 128 [a0,a1] h fun v0 h=>
 av False prog .lss 3 true false v0 (.int .i64 0) h fun v1 h=>
 aD v1 (
 κ (Value.tuple (Array.mk [(.slice none 0 0),(.int .i64 5)])) h) (
 DD a0 v0 a1 h κ)) := by kernel_rfl
def DE (a0 v0:Value) (o_:Nat) (xx:List Value→Heap→Prop) (v9 bG:Value) (h:Heap):Prop :=
 aI (some a0) h fun v16 h=>
 aI (bE none v16 h fun v _=>some v) h fun v17 h=>
 aI (fieldAddrB none 2 v17 h fun v _=>some v) h fun bQ h=>
 aI (load1 none bQ h fun v _=>some v) h fun v19 h=>
 aI (some v0) h fun v20 h=>
 aI (ax none 4 (ptrTo o_) h fun v _=>some v) h fun v21 h=>
 aI (an none 4 v19 v20 h fun v _=>some v) h fun v22 h=>
 aF False 4 v22 v21 h fun v23 h=>
 xx [v9,bG,v16,v17,bQ,v19,v20,v21,v22] h
def DF (a0 v0 a1 a2:Value) (h:Heap) (κ:KQ):Prop :=
 bE False a0 h fun v2 h=>
 fieldAddrB False 2 v2 h fun v3 h=>
 load1 False v3 h fun v4 h=>
 an False 4 v4 v0 h fun v5 h=>
 ax False 4 v5 h fun v6 h=>
 CallW prog 177 [v6,a1,a2] h fun v7 h=>
 au False 0 v7 h fun v8 h=>
 au False 1 v7 h fun v9 h=>
 ay False [(.int .i64 0),(.int .i64 0),(.slice none 0 0),(.int .i64 0)] 51 false fun Nj => ai False Nj h fun o_ h=>
 aF False 4 (ptrTo o_) v8 h fun v12 h=>
 dN (fun xx=>
 av False prog .eql 26 true false v9 (.int .i64 0) h fun bG h=>
 aD bG (
 DE a0 v0 o_ xx v9 bG h) (
 xx [v9,bG,undef,undef,undef,undef,undef,undef,undef] h)) fun ct h=>
 κ v9 h
theorem Vh (a0 a1 a2:Value) (h:Heap) (κ:KQ):aJ prog 123 [a0,a1,a2] h κ = (
 CallW prog 128 [a0,a1] h fun v0 h=>
 av False prog .lss 3 true false v0 (.int .i64 0) h fun v1 h=>
 aD v1 (
 κ (.int .i64 5) h) (
 DF a0 v0 a1 a2 h κ)) := by kernel_rfl
def DG (a0 v16:Value) (QZ:Nat) (N72:List Value→Heap→Prop) (v17:Value) (h:Heap):Prop :=
 bE False a0 h fun sk h=>
 fieldAddrB False 2 sk h fun v75 h=>
 load1 False v75 h fun v76 h=>
 an False 4 v76 v16 h fun v77 h=>
 ax False 4 v77 h fun v78 h=>
 aF False 4 (ptrTo QZ) v78 h fun v79 h=>
 N72 [v17,a0,sk,v75,v76,v16,v77,v78] h
def DH (a0:Value) (Vi:List Value) (Nh F4 J1:Value) (h:Heap) (κ:KQ):Prop :=
 bE False a0 h fun J3 h=>
 fieldAddrB False 2 J3 h fun v109 h=>
 load1 False v109 h fun J_ h=>
 sliceB False 51 4 J_ (some (slot Vi 3)) none none h fun UQ h=>
 bB False 51 4 [(.int .i64 0),(.int .i64 0),(.slice none 0 0),(.int .i64 0)] false Nh UQ h fun Ka h=>
 bE False a0 h fun Dk h=>
 fieldAddrB False 2 Dk h fun Kb h=>
 aF False 1 Kb Ka h fun Ur h=>
 κ (Value.tuple (Array.mk [F4,J1,(.int .i64 0)])) h
def xD (a0:Value) (QZ:Nat) (a2 a3 v16 v17:Value) (h:Heap) (κ:KQ):Prop :=
 bE False a0 h fun v80 h=>
 fieldAddrB False 1 v80 h fun Kk h=>
 load1 False Kk h fun v82 h=>
 CallW prog 179 [v82] h fun Kl h=>
 au False 0 Kl h fun F4 h=>
 au False 1 Kl h fun v85 h=>
 ax False 4 (ptrTo QZ) h fun Ng h=>
 CallW prog 180 [Ng,F4,a2,a3] h fun v87 h=>
 au False 0 v87 h fun S8 h=>
 au False 1 v87 h fun J1 h=>
 au False 2 v87 h fun UP h=>
 aF False 4 (ptrTo QZ) S8 h fun v91 h=>
 bC False [] [] (aY [(.int .i64 0),(.int .i64 0),(.slice none 0 0),(.int .i64 0)] 0) fun Vj => ay False Vj 51 false fun o92 => ai False o92 h fun b93 h=>
 bE False a0 h fun M0 h=>
 fieldAddrB False 2 M0 h fun QY h=>
 load1 False QY h fun M1 h=>
 sliceB False 51 4 M1 none (some v16) none h fun XP h=>
 bB False 51 4 [(.int .i64 0),(.int .i64 0),(.slice none 0 0),(.int .i64 0)] false (sliceTo 0 0 b93) XP h fun M3 h=>
 ax False 4 (ptrTo QZ) h fun Dr h=>
 bC False [(0,4)] [Dr] (aY [(.int .i64 0),(.int .i64 0),(.slice none 0 0),(.int .i64 0)] 1) fun aaB => ay False aaB 51 false fun ae_ => ai False ae_ h fun afa h=>
 bB False 51 4 [(.int .i64 0),(.int .i64 0),(.slice none 0 0),(.int .i64 0)] false M3 (sliceTo 1 1 afa) h fun Nh h=>
 dN (fun aaC=>
 aD v17 (
 av False prog .add 3 true false v16 (.int .i64 1) h fun v107 h=>
 aaC [v17,v16,v107,v107] h) (
 aaC [v17,undef,undef,v16] h)) fun Vi h=>
 DH a0 Vi Nh F4 J1 h κ
def xE (b1:Nat) (v17 a0 v16 a2 a3:Value) (h:Heap) (κ:KQ):Prop :=
 ax False 2 (ptrTo b1) h fun v67 h=>
 bC False [(0,2)] [v67] [(.int .i64 0),(.int .i64 0),(.slice none 0 0),(.int .i64 0)] fun afb=>
 ay False [(.int .i64 0),(.int .i64 0),(.slice none 0 0),(.int .i64 0)] 51 false fun o69 => ai False o69 h fun QZ h=>
 aF False 4 (ptrTo QZ) (Value.agg (Array.mk afb)) h fun zo h=>
 dN (fun N72=>
 aD v17 (
 DG a0 v16 QZ N72 v17 h) (
 N72 [v17,undef,undef,undef,undef,undef,undef,undef] h)) fun l73 h=>
 xD a0 QZ a2 a3 v16 v17 h κ
def DI (b1:Nat) (a0 a2 a3:Value) (h:Heap) (κ:KQ):Prop :=
 ax False 2 (ptrTo b1) h fun bJ h=>
 CallW prog 132 [a0,bJ] h fun bG h=>
 au False 0 bG h fun v16 h=>
 au False 1 bG h fun v17 h=>
 aI (some v17) h fun bQ h=>
 aI (jJ none .not bQ h fun v _=>some v) h fun v19 h=>
 aI (some v19) h fun v20 h=>
 ag (ah v20 true) (fun xu=>
 aI (some a0) h xu) h fun v22 h=>
 ag (ah v20 true) (fun xw=>
 aI (bE none v22 h fun v _=>some v) h xw) h fun v24 h=>
 ag (ah v20 true) (fun Dp=>
 aI (fieldAddrB none 2 v24 h fun v _=>some v) h Dp) h fun v26 h=>
 ag (ah v20 true) (fun Bj=>
 aI (load1 none v26 h fun v _=>some v) h Bj) h fun v28 h=>
 ag (ah v20 true) (fun Bk=>
 aI (bh none v28 h fun v _=>some v) h Bk) h fun v30 h=>
 ag (ah v20 true) (fun Dq=>
 aI (some a0) h Dq) h fun v32 h=>
 ag (ah v20 true) (fun Kj=>
 aI (bE none v32 h fun v _=>some v) h Kj) h fun ja h=>
 ag (ah v20 true) (fun Na=>
 aI (fieldAddrB none 0 ja h fun v _=>some v) h Na) h fun h_ h=>
 ag (ah v20 true) (fun Nb=>
 aI (load1 none h_ h fun v _=>some v) h Nb) h fun jZ h=>
 ag (ah v20 true) (fun QX=>
 aI (av none prog .geq 3 false false v30 jZ h fun v _=>some v) h QX) h fun v40 h=>
 aI (bt none v20 v40 (.bool false) h fun v _=>some v) h fun v41 h=>
 aI (some v41) h fun ia h=>
 ag (ah ia false) (fun UC=>
 aI (some a0) h UC) h fun v44 h=>
 ag (ah ia false) (fun QT=>
 aI (bE none v44 h fun v _=>some v) h QT) h fun v46 h=>
 ag (ah ia false) (fun UJ=>
 aI (fieldAddrB none 1 v46 h fun v _=>some v) h UJ) h fun mN h=>
 ag (ah ia false) (fun UK=>
 aI (load1 none mN h fun v _=>some v) h UK) h fun v50 h=>
 ag (ah ia false) (fun UL=>
 aI (some a0) h UL) h fun lQ h=>
 ag (ah ia false) (fun Zl=>
 aI (bE none lQ h fun v _=>some v) h Zl) h fun v54 h=>
 ag (ah ia false) (fun Zm=>
 aI (fieldAddrB none 1 v54 h fun v _=>some v) h Zm) h fun qN h=>
 ag (ah ia false) (fun Zn=>
 aI (load1 none qN h fun v _=>some v) h Zn) h fun v58 h=>
 ag (ah ia false) (fun UM=>
 CallW prog 93 [v50] h fun v60 h=>
 dI ((FJ (ah ia false) (gM (some a0) lQ)) && ((FJ (ah ia false) (gM (bE none lQ h fun v _=>some v) v54)) && ((FJ (ah ia false) (gM (fieldAddrB none 1 v54 h fun v _=>some v) qN)) && ((FJ (ah ia false) (gM (load1 none qN h fun v _=>some v) v58)) && true)))) (UM v60 h)) h fun qo h=>
 ag (ah ia false) (fun Y_=>
 CallW prog 178 [v58] h Y_) h fun rM h=>
 ag (ah ia false) (fun Za=>
 aI (av none prog .geq 3 false false qo rM h fun v _=>some v) h Za) h fun mh h=>
 aI (bt none ia (.bool true) mh h fun v _=>some v) h fun v66 h=>
 aD v66 (
 κ (Value.tuple (Array.mk [(.int .i64 0),(.bool false),(.int .i64 8)])) h) (
 xE b1 v17 a0 v16 a2 a3 h κ)
def DJ (b1:Nat) (a0 a2 a3:Value) (h:Heap) (κ:KQ):Prop :=
 ax False 2 (ptrTo b1) h fun v10 h=>
 CallW prog 91 [a0,v10,a2] h fun v11 h=>
 au False 0 v11 h fun v12 h=>
 au False 1 v11 h fun bI h=>
 aD bI (
 κ (Value.tuple (Array.mk [(.int .i64 0),(.bool false),(.int .i64 4)])) h) (
 DI b1 a0 a2 a3 h κ)
theorem Vk (a0 a1 a2 a3:Value) (h:Heap) (κ:KQ):aJ prog 124 [a0,a1,a2,a3] h κ = (
 ay False (Value.cells a1).toList 24 false fun o0 => ai False o0 h fun b1 h=>
 av False prog .eql 33 true false a3 (.int .i64 0) h fun v2 h=>
 ag (ah v2 false) (fun K3=>
 K3 a3 h) h fun v4 h=>
 ag (ah v2 false) (fun K5=>
 CallW prog 69 [v4] h K5) h fun v6 h=>
 ag (ah v2 false) (fun K7=>
 jJ False .not v6 h K7) h fun v8 h=>
 bt False v2 (.bool true) v8 h fun v9 h=>
 aD v9 (
 κ (Value.tuple (Array.mk [(.int .i64 0),(.bool false),(.int .i64 2)])) h) (
 DJ b1 a0 a2 a3 h κ)) := by kernel_rfl
theorem Vl (a0:Value) (h:Heap) (κ:KQ):aJ prog 126 [a0] h κ = (
 ay False (Value.cells a0).toList 24 false fun o0 => ai False o0 h fun b1 h=>
 ax False 2 (ptrTo b1) h fun v2 h=>
 CallW prog 182 [v2] h fun v3 h=>
 CallW prog 181 [v3] h fun v4 h=>
 κ v4 h) := by kernel_rfl
theorem Vm (a0 a1:Value) (h:Heap) (κ:KQ):aJ prog 127 [a0,a1] h κ = (
 CallW prog 128 [a0,a1] h fun v0 h=>
 av False prog .geq 3 true false v0 (.int .i64 0) h fun v1 h=>
 κ v1 h) := by kernel_rfl
def DK (a0:Value) (l1:List Value) (a1:Value) (N0:List Value→Heap→Prop) (v2 v3 v4 v5 v6:Value) (h:Heap) (κ:KQ):Prop :=
 bE False a0 h fun v7 h=>
 fieldAddrB False 2 v7 h fun v8 h=>
 load1 False v8 h fun v9 h=>
 an False 4 v9 (slot l1 26) h fun v10 h=>
 ax False 4 v10 h fun v11 h=>
 CallW prog 129 [v11,a1] h fun v12 h=>
 au False 0 v12 h fun bI h=>
 au False 1 v12 h fun bJ h=>
 ay False [(.int .i64 0),(.int .i64 0),(.int .i64 0),(.int .i64 0),(.int .i64 0)] 54 false fun ZD => ai False ZD h fun S9 h=>
 aF False 5 (ptrTo S9) bI h fun v17 h=>
 aD bJ (
 κ (slot l1 26) h) (
 av False prog .add 3 true false (slot l1 26) (.int .i64 1) h fun bQ h=>
 N0 [(slot l1 26),a0,v2,v3,v4,v5,v6,a0,v7,v8,v9,(slot l1 26),v10,v11,a1,v12,v12,bI,bJ,(ptrTo S9),bJ,bJ,(slot l1 22),(slot l1 23),(slot l1 26),bQ,bQ] h)
def xF (a0:Value) (l1:List Value) (a1:Value) (N0:List Value→Heap→Prop) (h:Heap) (κ:KQ):Prop :=
 bE False a0 h fun v2 h=>
 fieldAddrB False 2 v2 h fun v3 h=>
 load1 False v3 h fun v4 h=>
 bh False v4 h fun v5 h=>
 av False prog .lss 3 false false (slot l1 26) v5 h fun v6 h=>
 aD v6 (
 DK a0 l1 a1 N0 v2 v3 v4 v5 v6 h κ) (
 κ (.int .i64 (-1)) h)
theorem Vn (a0 a1:Value) (h:Heap) (κ:KQ):aJ prog 128 [a0,a1] h κ = (
 bV [undef,undef,undef,undef,undef,undef,undef,undef,undef,undef,undef,undef,undef,undef,undef,undef,undef,undef,undef,undef,undef,undef,undef,(.int .i64 0),undef,undef,(.int .i64 0)] h fun l1 h N0=>
 xF a0 l1 a1 N0 h κ) := by kernel_rfl
theorem Vo (a0 a1:Value) (h:Heap) (κ:KQ):aJ prog 129 [a0,a1] h κ = (
 ay False (Value.cells a0).toList 51 false fun o0 => ai False o0 h fun b1 h=>
 ay False [(.int .i64 0),(.int .i64 0),(.int .i64 0),(.int .i64 0),(.int .i64 0)] 54 false fun o2 => ai False o2 h fun b3 h=>
 ax False 4 (ptrTo b1) h fun v4 h=>
 CallW prog 183 [v4,a1] h fun v5 h=>
 av False prog .lss 3 true false v5 (.int .i64 0) h fun v6 h=>
 aD v6 (
 bC False [] [] [(.int .i64 0),(.int .i64 0),(.int .i64 0),(.int .i64 0),(.int .i64 0)] fun Kn=>
 aF False 5 (ptrTo b3) (Value.agg (Array.mk Kn)) h fun v8 h=>
 ax False 5 (ptrTo b3) h fun v9 _ => κ (Value.tuple (Array.mk [v9,(.bool false)])) h) (
 fieldAddrB False 2 (ptrTo b1) h fun v10 h=>
 load1 False v10 h fun v11 h=>
 an False 5 v11 v5 h fun v12 h=>
 ax False 5 v12 h fun bI h=>
 aF False 5 (ptrTo b3) bI h fun bJ h=>
 ax False 5 (ptrTo b3) h fun bG _ => κ (Value.tuple (Array.mk [bG,(.bool true)])) h)) := by kernel_rfl
theorem Vp (a0 a1:Value) (h:Heap) (κ:KQ):aJ prog 131 [a0,a1] h κ = (
 ay False (Value.cells a0).toList 54 false fun o0 => ai False o0 h fun b1 h=>
 fieldAddrB False 1 (ptrTo b1) h fun v2 h=>
 load1 False v2 h fun v3 h=>
 load1 False a1 h fun v4 h=>
 av False prog .eql 3 false false v3 v4 h fun v5 h=>
 κ v5 h) := by kernel_rfl
def DL (a0:Value) (l3:List Value) (b1:Nat) (N2:List Value→Heap→Prop) (v4 v5 v6 v7 v8:Value) (h:Heap) (κ:KQ):Prop :=
 aI (some a0) h fun v9 h=>
 aI (bE none v9 h fun v _=>some v) h fun v10 h=>
 aI (fieldAddrB none 2 v10 h fun v _=>some v) h fun v11 h=>
 aI (load1 none v11 h fun v _=>some v) h fun v12 h=>
 aI (some (slot l3 27)) h fun bI h=>
 aI (an none 4 v12 bI h fun v _=>some v) h fun bJ h=>
 aI (fieldAddrB none 0 bJ h fun v _=>some v) h fun bG h=>
 aI (ax none 2 bG h fun v _=>some v) h fun v16 h=>
 aI (ax none 2 (ptrTo b1) h fun v _=>some v) h fun v17 h=>
 CallW prog 23 [v16,v17] h fun bQ h=>
 av False prog .geq 3 true false bQ (.int .i64 0) h fun v19 h=>
 aD v19 (
 av False prog .eql 3 true false bQ (.int .i64 0) h fun v20 h=>
 κ (Value.tuple (Array.mk [(slot l3 27),v20])) h) (
 av False prog .add 3 true false (slot l3 27) (.int .i64 1) h fun v21 h=>
 N2 [(slot l3 27),a0,v4,v5,v6,v7,v8,v9,v10,v11,v12,bI,bJ,bG,v16,v17,bQ,bQ,bQ,v19,(slot l3 20),(slot l3 21),(slot l3 22),(slot l3 23),(slot l3 24),(slot l3 27),v21,v21] h)
def xG (a0:Value) (l3:List Value) (b1:Nat) (N2:List Value→Heap→Prop) (h:Heap) (κ:KQ):Prop :=
 bE False a0 h fun v4 h=>
 fieldAddrB False 2 v4 h fun v5 h=>
 load1 False v5 h fun v6 h=>
 bh False v6 h fun v7 h=>
 av False prog .lss 3 false false (slot l3 27) v7 h fun v8 h=>
 aD v8 (
 DL a0 l3 b1 N2 v4 v5 v6 v7 v8 h κ) (
 bE False a0 h fun v22 h=>
 fieldAddrB False 2 v22 h fun v23 h=>
 load1 False v23 h fun v24 h=>
 bh False v24 h fun v25 h=>
 κ (Value.tuple (Array.mk [v25,(.bool false)])) h)
theorem Vq (a0 a1:Value) (h:Heap) (κ:KQ):aJ prog 132 [a0,a1] h κ = (
 ay False (Value.cells a1).toList 24 false fun o0 => ai False o0 h fun b1 h=>
 bV [undef,undef,undef,undef,undef,undef,undef,undef,undef,undef,undef,undef,undef,undef,undef,undef,undef,undef,undef,undef,undef,undef,undef,(.int .i64 0),(.bool false),undef,undef,(.int .i64 0)] h fun l3 h N2=>
 xG a0 l3 b1 N2 h κ) := by kernel_rfl
def xH (a0:Value) (l1:List Value) (N7:List Value→Heap→Prop) (h:Heap):Prop :=
 bE False a0 h fun v9 h=>
 fieldAddrB False 0 v9 h fun v10 h=>
 load1 False v10 h fun v11 h=>
 an False 1 v11 (slot l1 21) h fun v12 h=>
 load1 False v12 h fun bI h=>
 aD bI (
 bC False [(0,1)] [(slot l1 21)] (aY [(.int .i64 0)] 1) fun Vr => ay False Vr 3 false fun UU => ai False UU h fun Iw h=>
 bB False 3 1 [(.int .i64 0)] false (slot l1 18) (sliceTo 1 1 Iw) h fun v17 h=>
 N7 [a0,v9,v10,v11,(slot l1 21),v12,bI,(slot l1 18),(slot l1 21),(sliceTo 1 1 Iw),v17,v17] h) (
 N7 [a0,v9,v10,v11,(slot l1 21),v12,bI,(slot l1 14),(slot l1 15),(slot l1 16),(slot l1 17),(slot l1 18)] h)
def xI (a0:Value) (l1:List Value) (N0:List Value→Heap→Prop) (h:Heap) (κ:KQ):Prop :=
 bE False a0 h fun v2 h=>
 fieldAddrB False 0 v2 h fun v3 h=>
 load1 False v3 h fun v4 h=>
 bh False v4 h fun v5 h=>
 av False prog .lss 3 false false (slot l1 21) v5 h fun v6 h=>
 aD v6 (
 dN (fun N7=>
 xH a0 l1 N7 h) fun l8 h=>
 av False prog .add 3 true false (slot l1 21) (.int .i64 1) h fun bQ h=>
 N0 [(slot l1 21),a0,v2,v3,v4,v5,v6,(slot l8 0),(slot l8 1),(slot l8 2),(slot l8 3),(slot l8 4),(slot l8 5),(slot l8 6),(slot l8 7),(slot l8 8),(slot l8 9),(slot l8 10),(slot l8 11),(slot l1 21),bQ,bQ] h) (
 κ (slot l1 18) h)
theorem Vs (a0:Value) (h:Heap) (κ:KQ):aJ prog 133 [a0] h κ = (
 bV [undef,undef,undef,undef,undef,undef,undef,undef,undef,undef,undef,undef,undef,undef,undef,undef,undef,undef,(.slice none 0 0),undef,undef,(.int .i64 0)] h fun l1 h N0=>
 xI a0 l1 N0 h κ) := by kernel_rfl
def xJ (l1:List Value) (a0:Value) (N0:List Value→Heap→Prop) (h:Heap) (κ:KQ):Prop :=
 av False prog .sub 3 true false (slot l1 19) (.int .i64 1) h fun v2 h=>
 av False prog .quo 3 true false v2 (.int .i64 2) h fun v3 h=>
 av False prog .eql 3 false false v3 (slot l1 19) h fun v4 h=>
 ag (ah v4 false) (fun K5=>
 K5 a0 h) h fun v6 h=>
 ag (ah v4 false) (fun K7=>
 K7 (slot l1 19) h) h fun v8 h=>
 ag (ah v4 false) (fun K9=>
 K9 v3 h) h fun v10 h=>
 ag (ah v4 false) (fun K11=>
 CallI prog "Less" v6 [v8,v10] h K11) h fun v12 h=>
 ag (ah v4 false) (fun UN=>
 jJ False .not v12 h UN) h fun bJ h=>
 bt False v4 (.bool true) bJ h fun bG h=>
 aD bG (
 κ (Value.tuple (Array.mk [])) h) (
 CallI prog "Swap" a0 [v3,(slot l1 19)] h fun v16 h=>
 N0 [(slot l1 19),v2,v3,v3,v3,(slot l1 19),v4,v4,v6,v8,v10,v12,bJ,bG,a0,v3,(slot l1 19),v16,v3,v3] h)
theorem Vt (a0 a1:Value) (h:Heap) (κ:KQ):aJ prog 134 [a0,a1] h κ = (
 bV [undef,undef,undef,undef,undef,undef,undef,undef,undef,undef,undef,undef,undef,undef,undef,undef,undef,undef,undef,a1] h fun l1 h N0=>
 xJ l1 a0 N0 h κ) := by kernel_rfl
theorem Vu (a0:Value) (h:Heap) (κ:KQ):aJ prog 135 [a0] h κ = (
 CallI prog "Len" a0 [] h fun v0 h=>
 av False prog .sub 3 true false v0 (.int .i64 1) h fun v1 h=>
 CallI prog "Swap" a0 [(.int .i64 0),v1] h fun v2 h=>
 CallW prog 184 [a0,(.int .i64 0),v1] h fun v3 h=>
 CallI prog "Pop" a0 [] h fun v4 h=>
 κ v4 h) := by kernel_rfl
theorem Vv (a0:Value) (h:Heap) (κ:KQ):aJ prog 136 [a0] h κ = (
 av False prog .neq 33 true false a0 (.int .i64 0) h fun v0 h=>
 ag (ah v0 true) (fun K1=>
 K1 a0 h) h fun v2 h=>
 ag (ah v0 true) (fun K3=>
 CallW prog 96 [v2] h K3) h fun v4 h=>
 bt False v0 v4 (.bool false) h fun v5 h=>
 κ v5 h) := by kernel_rfl
theorem Vw (a0 a1 a2:Value) (h:Heap) (κ:KQ):aJ prog 138 [a0,a1,a2] h κ = (
 ay False (Value.cells a0).toList 54 false fun o0 => ai False o0 h fun b1 h=>
 fieldAddrB False 0 (ptrTo b1) h fun v2 h=>
 load1 False v2 h fun v3 h=>
 load1 False a1 h fun v4 h=>
 av False prog .eql 3 false false v3 v4 h fun v5 h=>
 ag (ah v5 false) (fun K6=>
 fieldAddrB False 1 (ptrTo b1) h K6) h fun v7 h=>
 ag (ah v5 false) (fun K8=>
 load1 False v7 h K8) h fun v9 h=>
 ag (ah v5 false) (fun yV=>
 load1 False a2 h yV) h fun v11 h=>
 ag (ah v5 false) (fun tU=>
 av False prog .eql 3 false false v9 v11 h tU) h fun bI h=>
 bt False v5 (.bool true) bI h fun bJ h=>
 κ bJ h) := by kernel_rfl
theorem Vx (a0:Value) (h:Heap) (κ:KQ):aJ prog 139 [a0] h κ = (
 ay False (Value.cells a0).toList 51 false fun o0 => ai False o0 h fun b1 h=>
 ay False [(.int .i64 0),(.int .i64 0),(.slice none 0 0),(.int .i64 0)] 178 false fun o2 => ai False o2 h fun b3 h=>
 fieldAddrB False 2 (ptrTo b1) h fun v4 h=>
 load1 False v4 h fun v5 h=>
 CallW prog 107 [v5] h fun v6 h=>
 fieldAddrB False 2 (ptrTo b1) h fun v7 h=>
 aF False 1 v7 v6 h fun v8 h=>
 ax False 4 (ptrTo b1) h fun v9 h=>
 bC False [(0,4)] [v9] [(.int .i64 0),(.int .i64 0),(.slice none 0 0),(.int .i64 0)] fun afc=>
 aF False 4 (ptrTo b3) (Value.agg (Array.mk afc)) h fun v11 h=>
 ax False 4 (ptrTo b3) h fun v12 _ => κ v12 h) := by kernel_rfl
def DM (v4:Value) (l7:List Value) (b1:Nat) (N9:List Value→Heap→Prop) (h:Heap):Prop :=
 an False 5 v4 (slot l7 27) h fun v11 h=>
 ax False 5 v11 h fun v12 h=>
 ay False [(.int .i64 0),(.int .i64 0),(.int .i64 0),(.int .i64 0),(.int .i64 0)] 54 false fun o13 => ai False o13 h fun b14 h=>
 aF False 5 (ptrTo b14) v12 h fun bG h=>
 aI (ax none 5 (ptrTo b14) h fun v _=>some v) h fun v16 h=>
 CallW prog 185 [v16] h fun v17 h=>
 aI (some v17) h fun bQ h=>
 ag (ah bQ true) (fun Dm=>
 aI (some (slot l7 25)) h Dm) h fun v20 h=>
 ag (ah bQ true) (fun xu=>
 aI (av none prog .lss 3 true false v20 (.int .i64 0) h fun v _=>some v) h xu) h fun v22 h=>
 ag (ah bQ true) (fun xw=>
 aI (some v22) h xw) h fun v24 h=>
 ag (ah v24 false) (fun Dp=>
 aI (fieldAddrB none 4 (ptrTo b14) h fun v _=>some v) h Dp) h fun v26 h=>
 ag (ah v24 false) (fun Bj=>
 aI (load1 none v26 h fun v _=>some v) h Bj) h fun v28 h=>
 ag (ah v24 false) (fun Bk=>
 aI (fieldAddrB none 0 (ptrTo b1) h fun v _=>some v) h Bk) h fun v30 h=>
 ag (ah v24 false) (fun Dq=>
 aI (fieldAddrB none 2 v30 h fun v _=>some v) h Dq) h fun v32 h=>
 ag (ah v24 false) (fun Kj=>
 aI (load1 none v32 h fun v _=>some v) h Kj) h fun ja h=>
 ag (ah v24 false) (fun Na=>
 aI (some (slot l7 25)) h Na) h fun h_ h=>
 ag (ah v24 false) (fun Nb=>
 aI (an none 5 ja h_ h fun v _=>some v) h Nb) h fun jZ h=>
 ag (ah v24 false) (fun QX=>
 aI (fieldAddrB none 4 jZ h fun v _=>some v) h QX) h fun v40 h=>
 ag (ah v24 false) (fun Y7=>
 aI (load1 none v40 h fun v _=>some v) h Y7) h fun ia h=>
 ag (ah v24 false) (fun UC=>
 aI (av none prog .lss 3 false false v28 ia h fun v _=>some v) h UC) h fun v44 h=>
 ag (ah bQ true) (fun QT=>
 aI (bt none v24 (.bool true) v44 h fun v _=>some v) h QT) h fun v46 h=>
 aI (bt none bQ v46 (.bool false) h fun v _=>some v) h fun j0 h=>
 aD j0 (
 N9 [(slot l7 27),v11,v12,(ptrTo b14),(slot l7 27),v16,v17,bQ,v20,v22,v24,v26,v28,v30,v32,ja,h_,jZ,v40,ia,v44,v46,j0,(slot l7 27),(slot l7 27)] h) (
 N9 [(slot l7 27),v11,v12,(ptrTo b14),(slot l7 27),v16,v17,bQ,v20,v22,v24,v26,v28,v30,v32,ja,h_,jZ,v40,ia,v44,v46,j0,(slot l7 24),(slot l7 25)] h)
def xK (l7:List Value) (b1:Nat) (N49:List Value→Heap→Prop) (h:Heap):Prop :=
 av False prog .lss 3 true false (slot l7 25) (.int .i64 0) h fun v51 h=>
 aD v51 (
 fieldAddrB False 0 (ptrTo b1) h fun lQ h=>
 fieldAddrB False 2 lQ h fun v53 h=>
 load1 False v53 h fun v54 h=>
 CallW prog 130 [v54,(Value.func (.func 186) (Array.mk []) (Array.mk []))] h fun v55 h=>
 N49 [(slot l7 25),v51,lQ,v53,v54,v55,v55] h) (
 N49 [(slot l7 25),v51,undef,undef,undef,undef,(slot l7 25)] h)
def xL (l7:List Value) (v5 v4:Value) (b1:Nat) (N6:List Value→Heap→Prop) (h:Heap) (κ:KQ):Prop :=
 av False prog .lss 3 false false (slot l7 27) v5 h fun v8 h=>
 aD v8 (
 dN (fun N9=>
 DM v4 l7 b1 N9 h) fun nh h=>
 av False prog .add 3 true false (slot l7 27) (.int .i64 1) h fun mN h=>
 N6 [v8,(slot nh 0),(slot nh 1),(slot nh 2),(slot nh 3),(slot nh 4),(slot nh 5),(slot nh 6),(slot nh 7),(slot nh 8),(slot nh 9),(slot nh 10),(slot nh 11),(slot nh 12),(slot nh 13),(slot nh 14),(slot nh 15),(slot nh 16),(slot nh 17),(slot nh 18),(slot nh 19),(slot nh 20),(slot nh 21),(slot nh 22),(slot nh 23),(slot nh 24),mN,mN] h) (
 dN (fun N49=>
 xK l7 b1 N49 h) fun l50 h=>
 κ (slot l50 6) h)
theorem Vy (a0:Value) (h:Heap) (κ:KQ):aJ prog 140 [a0] h κ = (
 ay False (Value.cells a0).toList 178 false fun o0 => ai False o0 h fun b1 h=>
 fieldAddrB False 0 (ptrTo b1) h fun v2 h=>
 fieldAddrB False 2 v2 h fun v3 h=>
 load1 False v3 h fun v4 h=>
 bh False v4 h fun v5 h=>
 bV [undef,undef,undef,undef,undef,undef,undef,undef,undef,undef,undef,undef,undef,undef,undef,undef,undef,undef,undef,undef,undef,undef,undef,undef,undef,(.int .i64 (-1)),undef,(.int .i64 0)] h fun l7 h N6=>
 xL l7 v5 v4 b1 N6 h κ) := by kernel_rfl
theorem Vz (a0 a1:Value) (h:Heap) (κ:KQ):aJ prog 141 [a0,a1] h κ = (
 ay False (Value.cells a0).toList 178 false fun o0 => ai False o0 h fun b1 h=>
 ay False (Value.cells a1).toList 54 false fun o2 => ai False o2 h fun b3 h=>
 fieldAddrB False 0 (ptrTo b1) h fun v4 h=>
 fieldAddrB False 2 v4 h fun v5 h=>
 load1 False v5 h fun v6 h=>
 CallW prog 137 [v6,(Value.func (.func 188) (Array.mk []) (Array.mk [(ptrTo b3)]))] h fun v7 h=>
 jJ False .not v7 h fun v8 h=>
 κ v8 h) := by kernel_rfl
def DN (b7:Nat) (bI:Value) (uL:List Value) (Nl:List Value→Heap→Prop) (v12 bJ v16 bQ v20 v22 v24 v26 v28 v30 v32 v33:Value) (h:Heap):Prop :=
 aI (fieldAddrB none 0 (ptrTo b7) h fun v _=>some v) h fun jZ h=>
 aI (fieldAddrB none 2 jZ h fun v _=>some v) h fun v39 h=>
 aI (load1 none v39 h fun v _=>some v) h fun v40 h=>
 aI (some bI) h fun v41 h=>
 aI (fieldAddrB none 0 (ptrTo b7) h fun v _=>some v) h fun ia h=>
 aI (fieldAddrB none 2 ia h fun v _=>some v) h fun j7 h=>
 aI (load1 none j7 h fun v _=>some v) h fun v44 h=>
 aI (some bI) h fun v45 h=>
 aI (fieldAddrB none 0 (ptrTo b7) h fun v _=>some v) h fun v46 h=>
 aI (fieldAddrB none 2 v46 h fun v _=>some v) h fun j0 h=>
 aI (load1 none j0 h fun v _=>some v) h fun mN h=>
 aI (some bI) h fun v49 h=>
 aI (an none 5 mN v49 h fun v _=>some v) h fun v50 h=>
 aI (fieldAddrB none 3 v50 h fun v _=>some v) h fun v51 h=>
 aI (load1 none v51 h fun v _=>some v) h fun lQ h=>
 aI (an none 5 v40 v41 h fun v _=>some v) h fun v53 h=>
 aI (fieldAddrB none 2 v53 h fun v _=>some v) h fun v54 h=>
 aF False 1 v54 lQ h fun v55 h=>
 dI ((gM (fieldAddrB none 0 (ptrTo b7) h fun v _=>some v) ia) && ((gM (fieldAddrB none 2 ia h fun v _=>some v) j7) && ((gM (load1 none j7 h fun v _=>some v) v44) && ((gM (some bI) v45) && true)))) (aI (an none 5 v44 v45 h fun v _=>some v) h fun qN h=>
 aI (fieldAddrB none 4 qN h fun v _=>some v) h fun oc h=>
 aF False 1 oc (.int .i64 0) h fun v58 h=>
 fieldAddrB False 0 (ptrTo b7) h fun v59 h=>
 fieldAddrB False 2 v59 h fun v60 h=>
 load1 False v60 h fun qo h=>
 an False 5 qo bI h fun sn h=>
 fieldAddrB False 0 sn h fun rM h=>
 load1 False rM h fun v64 h=>
 bC False [(0,1)] [v64] (aY [(.int .i64 0)] 1) fun afd => ay False afd 3 false fun o65 => ai False o65 h fun b66 h=>
 bB False 3 1 [(.int .i64 0)] false (slot uL 49) (sliceTo 1 1 b66) h fun xy h=>
 Nl [v12,bI,bI,bI,bJ,bJ,v16,bQ,v20,v22,v24,v26,v28,v30,v32,v33,(slot uL 16),(slot uL 17),(slot uL 18),(slot uL 19),jZ,v39,v40,v41,ia,j7,v44,v45,v46,j0,mN,v49,v50,v51,lQ,v53,v54,qN,oc,(slot uL 49),v59,v60,qo,bI,sn,rM,v64,(sliceTo 1 1 b66),xy,xy] h)
def DO (b7:Nat) (v9:Value) (b3:Nat) (uL:List Value) (Nl:List Value→Heap→Prop) (h:Heap) (κ:KQ):Prop :=
 ax False 4 (ptrTo b7) h fun v12 h=>
 CallW prog 140 [v12] h fun bI h=>
 av False prog .lss 3 true false bI (.int .i64 0) h fun bJ h=>
 ag (ah bJ false) (fun QU=>
 QU (Value.func (.func 141) (Array.mk [v9]) (Array.mk [])) h) h fun v16 h=>
 ag (ah bJ false) (fun M_=>
 fieldAddrB False 0 (ptrTo b7) h M_) h fun bQ h=>
 ag (ah bJ false) (fun Dm=>
 fieldAddrB False 2 bQ h Dm) h fun v20 h=>
 ag (ah bJ false) (fun xu=>
 load1 False v20 h xu) h fun v22 h=>
 ag (ah bJ false) (fun xw=>
 xw bI h) h fun v24 h=>
 ag (ah bJ false) (fun Dp=>
 an False 5 v22 v24 h Dp) h fun v26 h=>
 ag (ah bJ false) (fun Bj=>
 ax False 5 v26 h Bj) h fun v28 h=>
 ag (ah bJ false) (fun Bk=>
 lg prog v16 [v28] h Bk) h fun v30 h=>
 ag (ah bJ false) (fun Dq=>
 jJ False .not v30 h Dq) h fun v32 h=>
 bt False bJ (.bool true) v32 h fun v33 h=>
 aD v33 (
 fieldAddrB False 0 (ptrTo b7) h fun ja h=>
 ax False 4 ja h fun v35 h=>
 aF False 4 (ptrTo b3) v35 h fun h_ h=>
 ax False 4 (ptrTo b3) h fun v37 _ => κ (Value.tuple (Array.mk [v37,(slot uL 49)])) h) (
 DN b7 bI uL Nl v12 bJ v16 bQ v20 v22 v24 v26 v28 v30 v32 v33 h)
theorem VA (a0:Value) (h:Heap) (κ:KQ):aJ prog 142 [a0] h κ = (
 ay False (Value.cells a0).toList 51 false fun o0 => ai False o0 h fun b1 h=>
 ay False [(.int .i64 0),(.int .i64 0),(.slice none 0 0),(.int .i64 0)] 51 false fun o2 => ai False o2 h fun b3 h=>
 ax False 4 (ptrTo b1) h fun v4 h=>
 CallW prog 139 [v4] h fun v5 h=>
 ay False [(.int .i64 0),(.int .i64 0),(.slice none 0 0),(.int .i64 0)] 178 false fun o6 => ai False o6 h fun b7 h=>
 aF False 4 (ptrTo b7) v5 h fun v8 h=>
 ax False 4 (ptrTo b7) h fun v9 h=>
 bV [undef,undef,undef,undef,undef,undef,undef,undef,undef,undef,undef,undef,undef,undef,undef,undef,undef,undef,undef,(.slice none 0 0),undef,undef,undef,undef,undef,undef,undef,undef,undef,undef,undef,undef,undef,undef,undef,undef,undef,undef,undef,undef,undef,undef,undef,undef,undef,undef,undef,undef,undef,(.slice none 0 0)] h fun uL h Nl=>
 DO b7 v9 b3 uL Nl h κ) := by kernel_rfl
def xM (b1:Nat) (h:Heap) (κ:KQ):Prop :=
 fieldAddrB False 0 (ptrTo b1) h fun bG h=>
 load1 False bG h fun v16 h=>
 CallW prog 191 [v16] h fun v17 h=>
 ag (ah v17 true) (fun Kp=>
 fieldAddrB False 1 (ptrTo b1) h Kp) h fun v19 h=>
 ag (ah v17 true) (fun F8=>
 load1 False v19 h F8) h fun v21 h=>
 ag (ah v17 true) (fun K22=>
 CallW prog 191 [v21] h K22) h fun v23 h=>
 bt False v17 v23 (.bool false) h fun v24 h=>
 aD v24 (
 κ (.int .i64 2) h) (
 κ (.int .i64 (-1)) h)
def DP (b1:Nat) (h:Heap) (κ:KQ):Prop :=
 fieldAddrB False 0 (ptrTo b1) h fun v5 h=>
 load1 False v5 h fun v6 h=>
 CallW prog 191 [v6] h fun v7 h=>
 ag (ah v7 true) (fun K8=>
 fieldAddrB False 1 (ptrTo b1) h K8) h fun v9 h=>
 ag (ah v7 true) (fun yV=>
 load1 False v9 h yV) h fun v11 h=>
 ag (ah v7 true) (fun tU=>
 av False prog .eql 3 true false v11 (.int .i64 (-1)) h tU) h fun bI h=>
 bt False v7 bI (.bool false) h fun bJ h=>
 aD bJ (
 κ (.int .i64 1) h) (
 xM b1 h κ)
theorem VB (a0:Value) (h:Heap) (κ:KQ):aJ prog 143 [a0] h κ = (
 ay False (Value.cells a0).toList 24 false fun o0 => ai False o0 h fun b1 h=>
 aI (ax none 2 (ptrTo b1) h fun v _=>some v) h fun v2 h=>
 CallW prog 190 [] h fun v3 h=>
 dI ((gM (ax none 2 (ptrTo b1) h fun v _=>some v) v2) && true) (aI (av none prog .eql 24 false false v2 v3 h fun v _=>some v) h fun v4 h=>
 aD v4 (
 κ (.int .i64 0) h) (
 DP b1 h κ))) := by kernel_rfl
def DQ (v0:Value) (l3:List Value) (N2:List Value→Heap→Prop) (v4:Value) (h:Heap):Prop :=
 an False 1 v0 (slot l3 12) h fun v5 h=>
 load1 False v5 h fun v6 h=>
 jo False .u32 v6 h fun v7 h=>
 av False prog .xor 146 false false (slot l3 10) v7 h fun v8 h=>
 av False prog .mul 146 true false v8 (Value.int .u32 (16777619)) h fun v9 h=>
 av False prog .add 3 true false (slot l3 12) (.int .i64 1) h fun v10 h=>
 N2 [v4,v5,v6,v6,(slot l3 10),v6,v7,v8,v8,v9,v9,v10,v10] h
theorem VC (a0:Value) (h:Heap) (κ:KQ):aJ prog 144 [a0] h κ = (
 oE False 5 a0 h fun v0 h=>
 bh False v0 h fun v1 h=>
 bV [undef,undef,undef,undef,undef,undef,undef,undef,undef,undef,(Value.int .u32 (2166136261)),undef,(.int .i64 0)] h fun l3 h N2=>
 av False prog .lss 3 false false (slot l3 12) v1 h fun v4 h=>
 aD v4 (
 DQ v0 l3 N2 v4 h) (
 κ (slot l3 10) h)) := by kernel_rfl
def DR (b1:Nat) (h:Heap) (κ:KQ):Prop :=
 aI (fieldAddrB none 0 (ptrTo b1) h fun v _=>some v) h fun v11 h=>
 aI (load1 none v11 h fun v _=>some v) h fun v12 h=>
 aI (fieldAddrB none 1 (ptrTo b1) h fun v _=>some v) h fun bI h=>
 aI (load1 none bI h fun v _=>some v) h fun bJ h=>
 CallW prog 192 [v12] h fun bG h=>
 dI ((gM (fieldAddrB none 1 (ptrTo b1) h fun v _=>some v) bI) && ((gM (load1 none bI h fun v _=>some v) bJ) && true)) (aI (av none prog .add 9 true false (Value.string (ByteArray.mk (Array.mk [116]))) bG h fun v _=>some v) h fun v16 h=>
 aI (av none prog .add 9 true false v16 (Value.string (ByteArray.mk (Array.mk [46,114]))) h fun v _=>some v) h fun v17 h=>
 CallW prog 192 [bJ] h fun bQ h=>
 dI ((gM (av none prog .add 9 true false (Value.string (ByteArray.mk (Array.mk [116]))) bG h fun v _=>some v) v16) && ((gM (av none prog .add 9 true false v16 (Value.string (ByteArray.mk (Array.mk [46,114]))) h fun v _=>some v) v17) && true)) (aI (av none prog .add 9 false false v17 bQ h fun v _=>some v) h fun v19 h=>
 κ v19 h))
def xN (v3:Value) (b1:Nat) (h:Heap) (κ:KQ):Prop :=
 av False prog .eql 3 true false v3 (.int .i64 1) h fun v5 h=>
 aD v5 (
 fieldAddrB False 0 (ptrTo b1) h fun v6 h=>
 load1 False v6 h fun v7 h=>
 CallW prog 192 [v7] h fun v8 h=>
 av False prog .add 9 true false (Value.string (ByteArray.mk (Array.mk [116]))) v8 h fun v9 h=>
 κ v9 h) (
 av False prog .eql 3 true false v3 (.int .i64 2) h fun v10 h=>
 aD v10 (
 DR b1 h κ) (
 κ (Value.string (ByteArray.mk (Array.mk [63]))) h))
theorem VD (a0:Value) (h:Heap) (κ:KQ):aJ prog 145 [a0] h κ = (
 ay False (Value.cells a0).toList 24 false fun o0 => ai False o0 h fun b1 h=>
 ax False 2 (ptrTo b1) h fun v2 h=>
 CallW prog 143 [v2] h fun v3 h=>
 av False prog .eql 3 true false v3 (.int .i64 0) h fun v4 h=>
 aD v4 (
 κ (Value.string (ByteArray.mk (Array.mk [100,98]))) h) (
 xN v3 b1 h κ)) := by kernel_rfl
def xO (v32:Value) (PE:List Value→Heap→Prop) (sk:Value) (h:Heap):Prop :=
 bE False v32 h fun v77 h=>
 fieldAddrB False 3 v77 h fun v78 h=>
 load1 False v78 h fun v79 h=>
 bE False v32 h fun v80 h=>
 fieldAddrB False 2 v80 h fun Kk h=>
 aF False 1 Kk v79 h fun v82 h=>
 PE [sk,v32,v32,v77,v78,v79,v80,Kk,undef,undef,undef,undef,undef,undef,undef,undef,undef,undef,undef,undef] h
def xP (tQ:Nat) (v32:Value) (PE:List Value→Heap→Prop) (sk:Value) (h:Heap):Prop :=
 fieldAddrB False 0 (ptrTo tQ) h fun Kl h=>
 fieldAddrB False 3 Kl h fun F4 h=>
 load1 False F4 h fun v85 h=>
 av False prog .add 3 true false v85 (.int .i64 1) h fun Ng h=>
 fieldAddrB False 0 (ptrTo tQ) h fun v87 h=>
 fieldAddrB False 3 v87 h fun S8 h=>
 aF False 1 S8 Ng h fun J1 h=>
 fieldAddrB False 0 (ptrTo tQ) h fun UP h=>
 fieldAddrB False 3 UP h fun v91 h=>
 load1 False v91 h fun QM h=>
 bE False v32 h fun v93 h=>
 fieldAddrB False 4 v93 h fun v94 h=>
 aF False 1 v94 QM h fun M0 h=>
 PE [sk,undef,undef,undef,undef,undef,undef,undef,Kl,F4,v85,Ng,v87,S8,v32,UP,v91,QM,v93,v94] h
def DS (tQ:Nat) (bG a2:Value) (b3:Nat) (h:Heap) (κ:KQ):Prop :=
 fieldAddrB False 0 (ptrTo tQ) h fun gN h=>
 fieldAddrB False 2 gN h fun v30 h=>
 load1 False v30 h fun v31 h=>
 an False 5 v31 bG h fun v32 h=>
 bE False v32 h fun v33 h=>
 fieldAddrB False 2 v33 h fun ja h=>
 load1 False ja h fun v35 h=>
 CallW prog 194 [v35,a2] h fun h_ h=>
 bE False v32 h fun v37 h=>
 fieldAddrB False 3 v37 h fun jZ h=>
 aF False 1 jZ h_ h fun v39 h=>
 aI (some v32) h fun v40 h=>
 aI (bE none v40 h fun v _=>some v) h fun v41 h=>
 aI (fieldAddrB none 3 v41 h fun v _=>some v) h fun ia h=>
 aI (load1 none ia h fun v _=>some v) h fun j7 h=>
 aI (some v32) h fun v44 h=>
 aI (bE none v44 h fun v _=>some v) h fun v45 h=>
 aI (fieldAddrB none 2 v45 h fun v _=>some v) h fun v46 h=>
 aI (load1 none v46 h fun v _=>some v) h fun j0 h=>
 aI (av none prog .eql 33 false false j7 j0 h fun v _=>some v) h fun mN h=>
 aI (some mN) h fun v49 h=>
 ag (ah v49 false) (fun UD=>
 aI (ax none 4 (ptrTo tQ) h fun v _=>some v) h UD) h fun v51 h=>
 ag (ah v49 false) (fun Y9=>
 aI (some v32) h Y9) h fun v53 h=>
 ag (ah v49 false) (fun K54=>
 aI (bE none v53 h fun v _=>some v) h K54) h fun v55 h=>
 ag (ah v49 false) (fun UE=>
 aI (ax none 5 v55 h fun v _=>some v) h UE) h fun oc h=>
 ag (ah v49 false) (fun UG=>
 CallW prog 141 [v51,oc] h UG) h fun v59 h=>
 ag (ah v49 false) (fun UH=>
 aI (some v59) h UH) h fun qo h=>
 ag (ah qo true) (fun Y_=>
 aI (fieldAddrB none 0 (ptrTo tQ) h fun v _=>some v) h Y_) h fun rM h=>
 ag (ah qo true) (fun Za=>
 aI (fieldAddrB none 2 rM h fun v _=>some v) h Za) h fun mh h=>
 ag (ah qo true) (fun K66=>
 aI (load1 none mh h fun v _=>some v) h K66) h fun v67 h=>
 ag (ah qo true) (fun K68=>
 CallW prog 137 [v67,(Value.func (.func 185) (Array.mk []) (Array.mk []))] h K68) h fun zn h=>
 ag (ah qo true) (fun K70=>
 aI (jJ none .not zn h fun v _=>some v) h K70) h fun zo h=>
 ag (ah v49 false) (fun K72=>
 aI (bt none qo zo (.bool false) h fun v _=>some v) h K72) h fun Ic h=>
 aI (bt none v49 (.bool true) Ic h fun v _=>some v) h fun sk h=>
 dN (fun PE=>
 aD sk (
 xO v32 PE sk h) (
 xP tQ v32 PE sk h)) fun l76 h=>
 fieldAddrB False 0 (ptrTo tQ) h fun QY h=>
 ax False 4 QY h fun M1 h=>
 aF False 4 (ptrTo b3) M1 h fun XP h=>
 ax False 4 (ptrTo b3) h fun M3 _ => κ (Value.tuple (Array.mk [M3,sk,(.int .i64 0)])) h
def DT (tQ:Nat) (bG:Value) (b3:Nat) (a2:Value) (h:Heap) (κ:KQ):Prop :=
 fieldAddrB False 0 (ptrTo tQ) h fun v20 h=>
 fieldAddrB False 2 v20 h fun v21 h=>
 load1 False v21 h fun v22 h=>
 an False 5 v22 bG h fun v23 h=>
 ax False 5 v23 h fun v24 h=>
 CallW prog 193 [v24] h fun v25 h=>
 aD v25 (
 bC False [] [] [(.int .i64 0),(.int .i64 0),(.slice none 0 0),(.int .i64 0)] fun UX=>
 aF False 4 (ptrTo b3) (Value.agg (Array.mk UX)) h fun v27 h=>
 ax False 4 (ptrTo b3) h fun v28 _ => κ (Value.tuple (Array.mk [v28,(.bool false),(.int .i64 7)])) h) (
 DS tQ bG a2 b3 h κ)
def DU (b1:Nat) (a1:Value) (b3:Nat) (a2:Value) (h:Heap) (κ:KQ):Prop :=
 ax False 4 (ptrTo b1) h fun v9 h=>
 CallW prog 139 [v9] h fun v10 h=>
 ay False [(.int .i64 0),(.int .i64 0),(.slice none 0 0),(.int .i64 0)] 178 false fun o11 => ai False o11 h fun tQ h=>
 aF False 4 (ptrTo tQ) v10 h fun bI h=>
 ax False 4 (ptrTo tQ) h fun bJ h=>
 CallW prog 169 [bJ,a1] h fun bG h=>
 av False prog .lss 3 true false bG (.int .i64 0) h fun v16 h=>
 aD v16 (
 bC False [] [] [(.int .i64 0),(.int .i64 0),(.slice none 0 0),(.int .i64 0)] fun Br=>
 aF False 4 (ptrTo b3) (Value.agg (Array.mk Br)) h fun bQ h=>
 ax False 4 (ptrTo b3) h fun v19 _ => κ (Value.tuple (Array.mk [v19,(.bool false),(.int .i64 5)])) h) (
 DT tQ bG b3 a2 h κ)
theorem VE (a0 a1 a2:Value) (h:Heap) (κ:KQ):aJ prog 146 [a0,a1,a2] h κ = (
 ay False (Value.cells a0).toList 51 false fun o0 => ai False o0 h fun b1 h=>
 ay False [(.int .i64 0),(.int .i64 0),(.slice none 0 0),(.int .i64 0)] 51 false fun o2 => ai False o2 h fun b3 h=>
 CallW prog 136 [a2] h fun v4 h=>
 jJ False .not v4 h fun v5 h=>
 aD v5 (
 bC False [] [] [(.int .i64 0),(.int .i64 0),(.slice none 0 0),(.int .i64 0)] fun Ni=>
 aF False 4 (ptrTo b3) (Value.agg (Array.mk Ni)) h fun v7 h=>
 ax False 4 (ptrTo b3) h fun v8 _ => κ (Value.tuple (Array.mk [v8,(.bool false),(.int .i64 2)])) h) (
 DU b1 a1 b3 a2 h κ)) := by kernel_rfl
def DV (b7:Nat) (v10:Value) (b3:Nat) (h:Heap) (κ:KQ):Prop :=
 aI (fieldAddrB none 0 (ptrTo b7) h fun v _=>some v) h fun h_ h=>
 aI (fieldAddrB none 2 h_ h fun v _=>some v) h fun v37 h=>
 aI (load1 none v37 h fun v _=>some v) h fun jZ h=>
 aI (some v10) h fun v39 h=>
 aI (fieldAddrB none 0 (ptrTo b7) h fun v _=>some v) h fun v40 h=>
 aI (fieldAddrB none 2 v40 h fun v _=>some v) h fun v41 h=>
 aI (load1 none v41 h fun v _=>some v) h fun ia h=>
 aI (some v10) h fun j7 h=>
 aI (fieldAddrB none 0 (ptrTo b7) h fun v _=>some v) h fun v44 h=>
 aI (fieldAddrB none 2 v44 h fun v _=>some v) h fun v45 h=>
 aI (load1 none v45 h fun v _=>some v) h fun v46 h=>
 aI (some v10) h fun j0 h=>
 aI (an none 5 v46 j0 h fun v _=>some v) h fun mN h=>
 aI (fieldAddrB none 2 mN h fun v _=>some v) h fun v49 h=>
 aI (load1 none v49 h fun v _=>some v) h fun v50 h=>
 aI (an none 5 jZ v39 h fun v _=>some v) h fun v51 h=>
 aI (fieldAddrB none 3 v51 h fun v _=>some v) h fun lQ h=>
 aF False 1 lQ v50 h fun v53 h=>
 dI ((gM (fieldAddrB none 0 (ptrTo b7) h fun v _=>some v) v40) && ((gM (fieldAddrB none 2 v40 h fun v _=>some v) v41) && ((gM (load1 none v41 h fun v _=>some v) ia) && ((gM (some v10) j7) && true)))) (aI (an none 5 ia j7 h fun v _=>some v) h fun v54 h=>
 aI (fieldAddrB none 4 v54 h fun v _=>some v) h fun v55 h=>
 aF False 1 v55 (.int .i64 0) h fun qN h=>
 fieldAddrB False 0 (ptrTo b7) h fun oc h=>
 ax False 4 oc h fun v58 h=>
 aF False 4 (ptrTo b3) v58 h fun v59 h=>
 ax False 4 (ptrTo b3) h fun v60 _ => κ (Value.tuple (Array.mk [v60,(.int .i64 0)])) h)
def DW (b7:Nat) (v10 a1:Value) (b3:Nat) (h:Heap) (κ:KQ):Prop :=
 fieldAddrB False 0 (ptrTo b7) h fun v25 h=>
 fieldAddrB False 2 v25 h fun v26 h=>
 load1 False v26 h fun v27 h=>
 an False 5 v27 v10 h fun v28 h=>
 ax False 5 v28 h fun gN h=>
 CallW prog 187 [gN] h fun v30 h=>
 jJ False .not v30 h fun v31 h=>
 aD v31 (
 ax False 4 (ptrTo b7) h fun v32 h=>
 CallW prog 170 [v32,a1] h fun v33 h=>
 aF False 4 (ptrTo b3) v33 h fun ja h=>
 ax False 4 (ptrTo b3) h fun v35 _ => κ (Value.tuple (Array.mk [v35,(.int .i64 0)])) h) (
 DV b7 v10 b3 h κ)
def DX (b7:Nat) (v10:Value) (b3:Nat) (a1:Value) (h:Heap) (κ:KQ):Prop :=
 fieldAddrB False 0 (ptrTo b7) h fun bG h=>
 fieldAddrB False 2 bG h fun v16 h=>
 load1 False v16 h fun v17 h=>
 an False 5 v17 v10 h fun bQ h=>
 ax False 5 bQ h fun v19 h=>
 CallW prog 193 [v19] h fun v20 h=>
 jJ False .not v20 h fun v21 h=>
 aD v21 (
 bC False [] [] [(.int .i64 0),(.int .i64 0),(.slice none 0 0),(.int .i64 0)] fun aff=>
 aF False 4 (ptrTo b3) (Value.agg (Array.mk aff)) h fun v23 h=>
 ax False 4 (ptrTo b3) h fun v24 _ => κ (Value.tuple (Array.mk [v24,(.int .i64 7)])) h) (
 DW b7 v10 a1 b3 h κ)
theorem VF (a0 a1:Value) (h:Heap) (κ:KQ):aJ prog 147 [a0,a1] h κ = (
 ay False (Value.cells a0).toList 51 false fun o0 => ai False o0 h fun b1 h=>
 ay False [(.int .i64 0),(.int .i64 0),(.slice none 0 0),(.int .i64 0)] 51 false fun o2 => ai False o2 h fun b3 h=>
 ax False 4 (ptrTo b1) h fun v4 h=>
 CallW prog 139 [v4] h fun v5 h=>
 ay False [(.int .i64 0),(.int .i64 0),(.slice none 0 0),(.int .i64 0)] 178 false fun o6 => ai False o6 h fun b7 h=>
 aF False 4 (ptrTo b7) v5 h fun v8 h=>
 ax False 4 (ptrTo b7) h fun v9 h=>
 CallW prog 169 [v9,a1] h fun v10 h=>
 av False prog .lss 3 true false v10 (.int .i64 0) h fun v11 h=>
 aD v11 (
 bC False [] [] [(.int .i64 0),(.int .i64 0),(.slice none 0 0),(.int .i64 0)] fun F9=>
 aF False 4 (ptrTo b3) (Value.agg (Array.mk F9)) h fun bI h=>
 ax False 4 (ptrTo b3) h fun bJ _ => κ (Value.tuple (Array.mk [bJ,(.int .i64 5)])) h) (
 DX b7 v10 b3 a1 h κ)) := by kernel_rfl
def DY (o_ b5:Nat) (bG:Value) (b7:Nat) (h:Heap) (κ:KQ):Prop :=
 fieldAddrB False 0 (ptrTo o_) h fun h_ h=>
 fieldAddrB False 2 h_ h fun v37 h=>
 load1 False v37 h fun jZ h=>
 load1 False (ptrTo b5) h fun v39 h=>
 an False 5 jZ bG h fun v40 h=>
 fieldAddrB False 1 v40 h fun v41 h=>
 aF False 1 v41 v39 h fun ia h=>
 fieldAddrB False 0 (ptrTo o_) h fun j7 h=>
 ax False 4 j7 h fun v44 h=>
 aF False 4 (ptrTo b7) v44 h fun v45 h=>
 ax False 4 (ptrTo b7) h fun v46 _ => κ (Value.tuple (Array.mk [v46,(.int .i64 0)])) h
def DZ (o_:Nat) (bG:Value) (b7 b5:Nat) (h:Heap) (κ:KQ):Prop :=
 fieldAddrB False 0 (ptrTo o_) h fun v27 h=>
 fieldAddrB False 2 v27 h fun v28 h=>
 load1 False v28 h fun gN h=>
 an False 5 gN bG h fun v30 h=>
 ax False 5 v30 h fun v31 h=>
 CallW prog 193 [v31] h fun v32 h=>
 aD v32 (
 bC False [] [] [(.int .i64 0),(.int .i64 0),(.slice none 0 0),(.int .i64 0)] fun UY=>
 aF False 4 (ptrTo b7) (Value.agg (Array.mk UY)) h fun ja h=>
 ax False 4 (ptrTo b7) h fun v35 _ => κ (Value.tuple (Array.mk [v35,(.int .i64 7)])) h) (
 DY o_ b5 bG b7 h κ)
def D0 (o_ b3 b5 b7:Nat) (bG:Value) (h:Heap) (κ:KQ):Prop :=
 fieldAddrB False 0 (ptrTo o_) h fun v20 h=>
 fieldAddrB False 2 v20 h fun v21 h=>
 load1 False v21 h fun v22 h=>
 CallW prog 137 [v22,(Value.func (.func 195) (Array.mk []) (Array.mk [(ptrTo b3),(ptrTo b5)]))] h fun v23 h=>
 aD v23 (
 bC False [] [] [(.int .i64 0),(.int .i64 0),(.slice none 0 0),(.int .i64 0)] fun afg=>
 aF False 4 (ptrTo b7) (Value.agg (Array.mk afg)) h fun v25 h=>
 ax False 4 (ptrTo b7) h fun v26 _ => κ (Value.tuple (Array.mk [v26,(.int .i64 4)])) h) (
 DZ o_ bG b7 b5 h κ)
theorem VG (a0 a1 a2:Value) (h:Heap) (κ:KQ):aJ prog 148 [a0,a1,a2] h κ = (
 ay False (Value.cells a0).toList 51 false fun o0 => ai False o0 h fun b1 h=>
 ay False (Value.cells a1).toList 3 false fun o2 => ai False o2 h fun b3 h=>
 ay False (Value.cells a2).toList 3 false fun o4 => ai False o4 h fun b5 h=>
 ay False [(.int .i64 0),(.int .i64 0),(.slice none 0 0),(.int .i64 0)] 51 false fun o6 => ai False o6 h fun b7 h=>
 ax False 4 (ptrTo b1) h fun v8 h=>
 CallW prog 139 [v8] h fun v9 h=>
 ay False [(.int .i64 0),(.int .i64 0),(.slice none 0 0),(.int .i64 0)] 178 false fun Nj => ai False Nj h fun o_ h=>
 aF False 4 (ptrTo o_) v9 h fun v12 h=>
 ax False 4 (ptrTo o_) h fun bI h=>
 load1 False (ptrTo b3) h fun bJ h=>
 CallW prog 169 [bI,bJ] h fun bG h=>
 av False prog .lss 3 true false bG (.int .i64 0) h fun v16 h=>
 aD v16 (
 bC False [] [] [(.int .i64 0),(.int .i64 0),(.slice none 0 0),(.int .i64 0)] fun Br=>
 aF False 4 (ptrTo b7) (Value.agg (Array.mk Br)) h fun bQ h=>
 ax False 4 (ptrTo b7) h fun v19 _ => κ (Value.tuple (Array.mk [v19,(.int .i64 5)])) h) (
 D0 o_ b3 b5 b7 bG h κ)) := by kernel_rfl
theorem VH (a0 a1:Value) (h:Heap) (κ:KQ):aJ prog 149 [a0,a1] h κ = (
 CallW prog 196 [a0] h fun v0 h=>
 CallW prog 197 [v0,a1] h fun v1 h=>
 κ v0 h) := by kernel_rfl
theorem VI (a0:Value) (h:Heap) (κ:KQ):aJ prog 150 [a0] h κ = (
 ay False (Value.cells a0).toList 135 false fun o0 => ai False o0 h fun b1 h=>
 κ (Value.func (.func 198) (Array.mk []) (Array.mk [(ptrTo b1)])) h) := by kernel_rfl
theorem VJ (a0 a1:Value) (h:Heap) (κ:KQ):aJ prog 169 [a0,a1] h κ = (
 ay False (Value.cells a0).toList 178 false fun o0 => ai False o0 h fun b1 h=>
 ay False (Value.cells a1).toList 3 false fun o2 => ai False o2 h fun b3 h=>
 fieldAddrB False 0 (ptrTo b1) h fun v4 h=>
 fieldAddrB False 2 v4 h fun v5 h=>
 load1 False v5 h fun v6 h=>
 CallW prog 130 [v6,(Value.func (.func 207) (Array.mk []) (Array.mk [(ptrTo b3)]))] h fun v7 h=>
 κ v7 h) := by kernel_rfl
theorem VK (a0 a1:Value) (h:Heap) (κ:KQ):aJ prog 170 [a0,a1] h κ = (
 ay False (Value.cells a0).toList 178 false fun o0 => ai False o0 h fun b1 h=>
 ay False (Value.cells a1).toList 3 false fun o2 => ai False o2 h fun b3 h=>
 ay False [(.int .i64 0),(.int .i64 0),(.slice none 0 0),(.int .i64 0)] 51 false fun o4 => ai False o4 h fun b5 h=>
 fieldAddrB False 0 (ptrTo b1) h fun v6 h=>
 fieldAddrB False 2 v6 h fun v7 h=>
 load1 False v7 h fun v8 h=>
 CallW prog 208 [v8,(Value.func (.func 209) (Array.mk []) (Array.mk [(ptrTo b3)]))] h fun v9 h=>
 fieldAddrB False 0 (ptrTo b1) h fun v10 h=>
 fieldAddrB False 2 v10 h fun v11 h=>
 aF False 1 v11 v9 h fun v12 h=>
 fieldAddrB False 0 (ptrTo b1) h fun bI h=>
 ax False 4 bI h fun bJ h=>
 aF False 4 (ptrTo b5) bJ h fun bG h=>
 ax False 4 (ptrTo b5) h fun v16 _ => κ v16 h) := by kernel_rfl
def xQ (Kr:Nat) (v10 v33:Value) (b3:Nat) (h:Heap) (κ:KQ):Prop :=
 fieldAddrB False 2 (ptrTo Kr) h fun v64 h=>
 load1 False v64 h fun mh h=>
 an False 5 mh v10 h fun v66 h=>
 fieldAddrB False 2 v66 h fun v67 h=>
 aF False 1 v67 v33 h fun xy h=>
 ax False 4 (ptrTo Kr) h fun zn h=>
 aF False 4 (ptrTo b3) zn h fun v70 h=>
 ax False 4 (ptrTo b3) h fun zo _ => κ (Value.tuple (Array.mk [zo,(.bool true),(.int .i64 0)])) h
def xR (Kr:Nat) (v10:Value) (b3:Nat) (h:Heap) (κ:KQ):Prop :=
 fieldAddrB False 3 (ptrTo Kr) h fun v72 h=>
 load1 False v72 h fun Ic h=>
 av False prog .add 3 true false Ic (.int .i64 1) h fun sk h=>
 fieldAddrB False 3 (ptrTo Kr) h fun v75 h=>
 aF False 1 v75 sk h fun v76 h=>
 fieldAddrB False 2 (ptrTo Kr) h fun v77 h=>
 load1 False v77 h fun v78 h=>
 fieldAddrB False 3 (ptrTo Kr) h fun v79 h=>
 load1 False v79 h fun v80 h=>
 an False 5 v78 v10 h fun Kk h=>
 fieldAddrB False 4 Kk h fun v82 h=>
 aF False 1 v82 v80 h fun Kl h=>
 ax False 4 (ptrTo Kr) h fun F4 h=>
 aF False 4 (ptrTo b3) F4 h fun v85 h=>
 ax False 4 (ptrTo b3) h fun Ng _ => κ (Value.tuple (Array.mk [Ng,(.bool false),(.int .i64 0)])) h
def D1 (b1:Nat) (v10 a2:Value) (b3:Nat) (h:Heap) (κ:KQ):Prop :=
 ax False 4 (ptrTo b1) h fun v23 h=>
 CallW prog 62 [v23] h fun v24 h=>
 ay False [(.int .i64 0),(.int .i64 0),(.slice none 0 0),(.int .i64 0)] 51 false fun o25 => ai False o25 h fun Kr h=>
 aF False 4 (ptrTo Kr) v24 h fun v27 h=>
 fieldAddrB False 2 (ptrTo b1) h fun v28 h=>
 load1 False v28 h fun gN h=>
 an False 5 gN v10 h fun v30 h=>
 fieldAddrB False 2 v30 h fun v31 h=>
 load1 False v31 h fun v32 h=>
 CallW prog 211 [v32,a2] h fun v33 h=>
 fieldAddrB False 2 (ptrTo Kr) h fun ja h=>
 load1 False ja h fun v35 h=>
 an False 5 v35 v10 h fun h_ h=>
 fieldAddrB False 3 h_ h fun v37 h=>
 aF False 1 v37 v33 h fun jZ h=>
 fieldAddrB False 2 (ptrTo b1) h fun v39 h=>
 load1 False v39 h fun v40 h=>
 an False 5 v40 v10 h fun v41 h=>
 fieldAddrB False 2 v41 h fun ia h=>
 load1 False ia h fun j7 h=>
 av False prog .eql 33 false false v33 j7 h fun v44 h=>
 ag (ah v44 false) (fun QT=>
 ax False 4 (ptrTo b1) h QT) h fun v46 h=>
 ag (ah v44 false) (fun UJ=>
 UJ v33 h) h fun mN h=>
 ag (ah v44 false) (fun UK=>
 UK v10 h) h fun v50 h=>
 ag (ah v44 false) (fun UL=>
 CallW prog 65 [v46,mN,v50] h UL) h fun lQ h=>
 ag (ah v44 false) (fun Zl=>
 Zl lQ h) h fun v54 h=>
 ag (ah v54 true) (fun Zm=>
 ax False 4 (ptrTo b1) h Zm) h fun qN h=>
 ag (ah v54 true) (fun Zn=>
 CallW prog 63 [qN] h Zn) h fun v58 h=>
 ag (ah v54 true) (fun UM=>
 av False prog .lss 3 true false v58 (.int .i64 0) h UM) h fun v60 h=>
 ag (ah v44 false) (fun Zo=>
 bt False v54 v60 (.bool false) h Zo) h fun sn h=>
 bt False v44 (.bool true) sn h fun rM h=>
 aD rM (
 xQ Kr v10 v33 b3 h κ) (
 xR Kr v10 b3 h κ)
def D2 (b1:Nat) (v10:Value) (b3:Nat) (a2:Value) (h:Heap) (κ:KQ):Prop :=
 fieldAddrB False 2 (ptrTo b1) h fun bG h=>
 load1 False bG h fun v16 h=>
 an False 5 v16 v10 h fun v17 h=>
 ax False 5 v17 h fun bQ h=>
 CallW prog 67 [bQ] h fun v19 h=>
 aD v19 (
 bC False [] [] [(.int .i64 0),(.int .i64 0),(.slice none 0 0),(.int .i64 0)] fun afh=>
 aF False 4 (ptrTo b3) (Value.agg (Array.mk afh)) h fun v21 h=>
 ax False 4 (ptrTo b3) h fun v22 _ => κ (Value.tuple (Array.mk [v22,(.bool false),(.int .i64 7)])) h) (
 D1 b1 v10 a2 b3 h κ)
def D3 (b1:Nat) (a1:Value) (b3:Nat) (a2:Value) (h:Heap) (κ:KQ):Prop :=
 ax False 4 (ptrTo b1) h fun v9 h=>
 CallW prog 183 [v9,a1] h fun v10 h=>
 av False prog .lss 3 true false v10 (.int .i64 0) h fun v11 h=>
 aD v11 (
 bC False [] [] [(.int .i64 0),(.int .i64 0),(.slice none 0 0),(.int .i64 0)] fun F9=>
 aF False 4 (ptrTo b3) (Value.agg (Array.mk F9)) h fun bI h=>
 ax False 4 (ptrTo b3) h fun bJ _ => κ (Value.tuple (Array.mk [bJ,(.bool false),(.int .i64 5)])) h) (
 D2 b1 v10 b3 a2 h κ)
theorem VL (a0 a1 a2:Value) (h:Heap) (κ:KQ):aJ prog 172 [a0,a1,a2] h κ = (
 ay False (Value.cells a0).toList 51 false fun o0 => ai False o0 h fun b1 h=>
 ay False [(.int .i64 0),(.int .i64 0),(.slice none 0 0),(.int .i64 0)] 51 false fun o2 => ai False o2 h fun b3 h=>
 CallW prog 210 [a2] h fun v4 h=>
 jJ False .not v4 h fun v5 h=>
 aD v5 (
 bC False [] [] [(.int .i64 0),(.int .i64 0),(.slice none 0 0),(.int .i64 0)] fun Ni=>
 aF False 4 (ptrTo b3) (Value.agg (Array.mk Ni)) h fun v7 h=>
 ax False 4 (ptrTo b3) h fun v8 _ => κ (Value.tuple (Array.mk [v8,(.bool false),(.int .i64 2)])) h) (
 D3 b1 a1 b3 a2 h κ)) := by kernel_rfl
theorem VM (a0 a1:Value) (h:Heap) (κ:KQ):aJ prog 173 [a0,a1] h κ = (
 ay False (Value.cells a0).toList 51 false fun o0 => ai False o0 h fun b1 h=>
 ay False [(.int .i64 0),(.int .i64 0),(.slice none 0 0),(.int .i64 0)] 51 false fun o2 => ai False o2 h fun b3 h=>
 ax False 4 (ptrTo b1) h fun v4 h=>
 CallW prog 183 [v4,a1] h fun v5 h=>
 av False prog .lss 3 true false v5 (.int .i64 0) h fun v6 h=>
 aD v6 (
 bC False [] [] [(.int .i64 0),(.int .i64 0),(.slice none 0 0),(.int .i64 0)] fun Kn=>
 aF False 4 (ptrTo b3) (Value.agg (Array.mk Kn)) h fun v8 h=>
 ax False 4 (ptrTo b3) h fun v9 _ => κ (Value.tuple (Array.mk [v9,(.int .i64 5)])) h) (
 ax False 4 (ptrTo b1) h fun v10 h=>
 CallW prog 212 [v10,v5] h fun v11 h=>
 aF False 4 (ptrTo b3) v11 h fun v12 h=>
 ax False 4 (ptrTo b3) h fun bI _ => κ (Value.tuple (Array.mk [bI,(.int .i64 0)])) h)) := by kernel_rfl
theorem VN (a0 a1:Value) (h:Heap) (κ:KQ):aJ prog 174 [a0,a1] h κ = (
 CallW prog 213 [a0,a1] h fun v0 h=>
 jJ False .not v0 h fun v1 h=>
 aD v1 (
 κ (.int .i64 5) h) (
 bE False a0 h fun v2 h=>
 fieldAddrB False 0 v2 h fun v3 h=>
 load1 False v3 h fun v4 h=>
 an False 1 v4 a1 h fun v5 h=>
 aF False 1 v5 (.bool false) h fun v6 h=>
 κ (.int .i64 0) h)) := by kernel_rfl
def D4 (a0 a1:Value) (D5:List Value→Heap→Prop) (v17 bQ v19 v20:Value) (h:Heap):Prop :=
 bC False [] [] (aY [(.int .i64 0),(.int .i64 0),(.slice none 0 0),(.int .i64 0)] 0) fun UZ => ay False UZ 51 false fun o21 => ai False o21 h fun b22 h=>
 bE False a0 h fun v24 h=>
 fieldAddrB False 2 v24 h fun v25 h=>
 load1 False v25 h fun v26 h=>
 sliceB False 51 4 v26 none (some a1) none h fun v27 h=>
 bB False 51 4 [(.int .i64 0),(.int .i64 0),(.slice none 0 0),(.int .i64 0)] false (sliceTo 0 0 b22) v27 h fun v28 h=>
 bE False a0 h fun gN h=>
 fieldAddrB False 2 gN h fun v30 h=>
 load1 False v30 h fun v31 h=>
 av False prog .add 3 true false a1 (.int .i64 1) h fun v32 h=>
 sliceB False 51 4 v31 (some v32) none none h fun v33 h=>
 bB False 51 4 [(.int .i64 0),(.int .i64 0),(.slice none 0 0),(.int .i64 0)] false v28 v33 h fun ja h=>
 bE False a0 h fun v35 h=>
 fieldAddrB False 2 v35 h fun h_ h=>
 aF False 1 h_ ja h fun v37 h=>
 D5 [v17,bQ,v19,v20,(sliceTo 0 0 b22),a0,v24,v25,v26,a1,v27,v28,v28,a0,v28,a0,gN,v30,v31,a1,v32,v33,ja,v35,h_] h
def xS (b1:Nat) (a0 a1:Value) (D5:List Value→Heap→Prop) (h:Heap):Prop :=
 fieldAddrB False 2 (ptrTo b1) h fun v17 h=>
 load1 False v17 h fun bQ h=>
 bh False bQ h fun v19 h=>
 av False prog .eql 3 true false v19 (.int .i64 0) h fun v20 h=>
 aD v20 (
 D4 a0 a1 D5 v17 bQ v19 v20 h) (
 D5 [v17,bQ,v19,v20,undef,undef,undef,undef,undef,undef,undef,undef,undef,undef,undef,undef,undef,undef,undef,undef,undef,undef,undef,undef,undef] h)
theorem VO (a0 a1 a2:Value) (h:Heap) (κ:KQ):aJ prog 175 [a0,a1,a2] h κ = (
 ay False (Value.cells a2).toList 51 false fun o0 => ai False o0 h fun b1 h=>
 ax False 4 (ptrTo b1) h fun v2 h=>
 CallW prog 21 [v2] h fun v3 h=>
 au False 0 v3 h fun v4 h=>
 au False 1 v3 h fun v5 h=>
 aF False 4 (ptrTo b1) v4 h fun v6 h=>
 aI (some a0) h fun v7 h=>
 aI (bE none v7 h fun v _=>some v) h fun v8 h=>
 aI (fieldAddrB none 2 v8 h fun v _=>some v) h fun v9 h=>
 aI (load1 none v9 h fun v _=>some v) h fun v10 h=>
 aI (some a1) h fun v11 h=>
 aI (ax none 4 (ptrTo b1) h fun v _=>some v) h fun v12 h=>
 aI (an none 4 v10 v11 h fun v _=>some v) h fun bI h=>
 aF False 4 bI v12 h fun bJ h=>
 dN (fun D5=>
 xS b1 a0 a1 D5 h) fun fW h=>
 κ v5 h) := by kernel_rfl
def D6 (b1:Nat) (v5:Value) (b3:Nat) (h:Heap) (κ:KQ):Prop :=
 ax False 4 (ptrTo b1) h fun gN h=>
 CallW prog 62 [gN] h fun v30 h=>
 ay False [(.int .i64 0),(.int .i64 0),(.slice none 0 0),(.int .i64 0)] 51 false fun o31 => ai False o31 h fun XQ h=>
 aF False 4 (ptrTo XQ) v30 h fun v33 h=>
 aI (fieldAddrB none 2 (ptrTo XQ) h fun v _=>some v) h fun ja h=>
 aI (load1 none ja h fun v _=>some v) h fun v35 h=>
 aI (some v5) h fun h_ h=>
 aI (fieldAddrB none 2 (ptrTo XQ) h fun v _=>some v) h fun v37 h=>
 aI (load1 none v37 h fun v _=>some v) h fun jZ h=>
 aI (some v5) h fun v39 h=>
 aI (fieldAddrB none 2 (ptrTo XQ) h fun v _=>some v) h fun v40 h=>
 aI (load1 none v40 h fun v _=>some v) h fun v41 h=>
 aI (some v5) h fun ia h=>
 aI (an none 5 v41 ia h fun v _=>some v) h fun j7 h=>
 aI (fieldAddrB none 2 j7 h fun v _=>some v) h fun v44 h=>
 aI (load1 none v44 h fun v _=>some v) h fun v45 h=>
 aI (an none 5 v35 h_ h fun v _=>some v) h fun v46 h=>
 aI (fieldAddrB none 3 v46 h fun v _=>some v) h fun j0 h=>
 aF False 1 j0 v45 h fun mN h=>
 dI ((gM (fieldAddrB none 2 (ptrTo XQ) h fun v _=>some v) v37) && ((gM (load1 none v37 h fun v _=>some v) jZ) && ((gM (some v5) v39) && true))) (aI (an none 5 jZ v39 h fun v _=>some v) h fun v49 h=>
 aI (fieldAddrB none 4 v49 h fun v _=>some v) h fun v50 h=>
 aF False 1 v50 (.int .i64 0) h fun v51 h=>
 ax False 4 (ptrTo XQ) h fun lQ h=>
 aF False 4 (ptrTo b3) lQ h fun v53 h=>
 ax False 4 (ptrTo b3) h fun v54 _ => κ (Value.tuple (Array.mk [v54,(.int .i64 0)])) h)
def D7 (b1:Nat) (v5:Value) (b3:Nat) (h:Heap) (κ:KQ):Prop :=
 fieldAddrB False 2 (ptrTo b1) h fun v19 h=>
 load1 False v19 h fun v20 h=>
 an False 5 v20 v5 h fun v21 h=>
 ax False 5 v21 h fun v22 h=>
 CallW prog 68 [v22] h fun v23 h=>
 jJ False .not v23 h fun v24 h=>
 aD v24 (
 ax False 4 (ptrTo b1) h fun v25 h=>
 CallW prog 212 [v25,v5] h fun v26 h=>
 aF False 4 (ptrTo b3) v26 h fun v27 h=>
 ax False 4 (ptrTo b3) h fun v28 _ => κ (Value.tuple (Array.mk [v28,(.int .i64 0)])) h) (
 D6 b1 v5 b3 h κ)
def D9 (b1:Nat) (v5:Value) (b3:Nat) (h:Heap) (κ:KQ):Prop :=
 fieldAddrB False 2 (ptrTo b1) h fun v10 h=>
 load1 False v10 h fun v11 h=>
 an False 5 v11 v5 h fun v12 h=>
 ax False 5 v12 h fun bI h=>
 CallW prog 67 [bI] h fun bJ h=>
 jJ False .not bJ h fun bG h=>
 aD bG (
 bC False [] [] [(.int .i64 0),(.int .i64 0),(.slice none 0 0),(.int .i64 0)] fun Vr=>
 aF False 4 (ptrTo b3) (Value.agg (Array.mk Vr)) h fun v17 h=>
 ax False 4 (ptrTo b3) h fun bQ _ => κ (Value.tuple (Array.mk [bQ,(.int .i64 7)])) h) (
 D7 b1 v5 b3 h κ)
theorem VP (a0 a1:Value) (h:Heap) (κ:KQ):aJ prog 176 [a0,a1] h κ = (
 ay False (Value.cells a0).toList 51 false fun o0 => ai False o0 h fun b1 h=>
 ay False [(.int .i64 0),(.int .i64 0),(.slice none 0 0),(.int .i64 0)] 51 false fun o2 => ai False o2 h fun b3 h=>
 ax False 4 (ptrTo b1) h fun v4 h=>
 CallW prog 183 [v4,a1] h fun v5 h=>
 av False prog .lss 3 true false v5 (.int .i64 0) h fun v6 h=>
 aD v6 (
 bC False [] [] [(.int .i64 0),(.int .i64 0),(.slice none 0 0),(.int .i64 0)] fun Kn=>
 aF False 4 (ptrTo b3) (Value.agg (Array.mk Kn)) h fun v8 h=>
 ax False 4 (ptrTo b3) h fun v9 _ => κ (Value.tuple (Array.mk [v9,(.int .i64 5)])) h) (
 D9 b1 v5 b3 h κ)) := by kernel_rfl
def D_ (b1:Nat) (v5 a2:Value) (b3:Nat) (h:Heap) (κ:KQ):Prop :=
 ax False 4 (ptrTo b1) h fun v46 h=>
 CallW prog 62 [v46] h fun j0 h=>
 ay False [(.int .i64 0),(.int .i64 0),(.slice none 0 0),(.int .i64 0)] 51 false fun o48 => ai False o48 h fun b49 h=>
 aF False 4 (ptrTo b49) j0 h fun v50 h=>
 fieldAddrB False 2 (ptrTo b49) h fun v51 h=>
 load1 False v51 h fun lQ h=>
 an False 5 lQ v5 h fun v53 h=>
 fieldAddrB False 1 v53 h fun v54 h=>
 aF False 1 v54 a2 h fun v55 h=>
 ax False 4 (ptrTo b49) h fun qN h=>
 aF False 4 (ptrTo b3) qN h fun oc h=>
 ax False 4 (ptrTo b3) h fun v58 _ => κ (Value.tuple (Array.mk [v58,(.int .i64 0)])) h
def sy (uL:List Value) (v5:Value) (b1:Nat) (a2:Value) (b3:Nat) (Nl:List Value→Heap→Prop) (v12 bI bJ bG:Value) (h:Heap) (κ:KQ):Prop :=
 av False prog .neq 3 false false (slot uL 22) v5 h fun v16 h=>
 ag (ah v16 true) (fun M_=>
 fieldAddrB False 2 (ptrTo b1) h M_) h fun bQ h=>
 ag (ah v16 true) (fun Dm=>
 load1 False bQ h Dm) h fun v20 h=>
 ag (ah v16 true) (fun xu=>
 xu (slot uL 22) h) h fun v22 h=>
 ag (ah v16 true) (fun xw=>
 an False 5 v20 v22 h xw) h fun v24 h=>
 ag (ah v16 true) (fun Dp=>
 fieldAddrB False 1 v24 h Dp) h fun v26 h=>
 ag (ah v16 true) (fun Bj=>
 load1 False v26 h Bj) h fun v28 h=>
 ag (ah v16 true) (fun Bk=>
 Bk a2 h) h fun v30 h=>
 ag (ah v16 true) (fun Dq=>
 av False prog .eql 3 false false v28 v30 h Dq) h fun v32 h=>
 bt False v16 v32 (.bool false) h fun v33 h=>
 aD v33 (
 bC False [] [] [(.int .i64 0),(.int .i64 0),(.slice none 0 0),(.int .i64 0)] fun afj=>
 aF False 4 (ptrTo b3) (Value.agg (Array.mk afj)) h fun v35 h=>
 ax False 4 (ptrTo b3) h fun h_ _ => κ (Value.tuple (Array.mk [h_,(.int .i64 4)])) h) (
 av False prog .add 3 true false (slot uL 22) (.int .i64 1) h fun v37 h=>
 Nl [(slot uL 22),v12,bI,bJ,bG,(slot uL 22),v5,v16,v16,bQ,v20,v22,v24,v26,v28,v30,v32,v33,(slot uL 18),(slot uL 19),(slot uL 22),v37,v37] h)
def Ea (b1:Nat) (v5:Value) (b3:Nat) (a2:Value) (h:Heap) (κ:KQ):Prop :=
 fieldAddrB False 2 (ptrTo b1) h fun jZ h=>
 load1 False jZ h fun v39 h=>
 an False 5 v39 v5 h fun v40 h=>
 ax False 5 v40 h fun v41 h=>
 CallW prog 67 [v41] h fun ia h=>
 aD ia (
 bC False [] [] [(.int .i64 0),(.int .i64 0),(.slice none 0 0),(.int .i64 0)] fun afk=>
 aF False 4 (ptrTo b3) (Value.agg (Array.mk afk)) h fun v44 h=>
 ax False 4 (ptrTo b3) h fun v45 _ => κ (Value.tuple (Array.mk [v45,(.int .i64 7)])) h) (
 D_ b1 v5 a2 b3 h κ)
def pe (b1:Nat) (uL:List Value) (v5 a2:Value) (b3:Nat) (Nl:List Value→Heap→Prop) (h:Heap) (κ:KQ):Prop :=
 fieldAddrB False 2 (ptrTo b1) h fun v12 h=>
 load1 False v12 h fun bI h=>
 bh False bI h fun bJ h=>
 av False prog .lss 3 false false (slot uL 22) bJ h fun bG h=>
 aD bG (
 sy uL v5 b1 a2 b3 Nl v12 bI bJ bG h κ) (
 Ea b1 v5 b3 a2 h κ)
theorem VS (a0 a1 a2:Value) (h:Heap) (κ:KQ):aJ prog 177 [a0,a1,a2] h κ = (
 ay False (Value.cells a0).toList 51 false fun o0 => ai False o0 h fun b1 h=>
 ay False [(.int .i64 0),(.int .i64 0),(.slice none 0 0),(.int .i64 0)] 51 false fun o2 => ai False o2 h fun b3 h=>
 ax False 4 (ptrTo b1) h fun v4 h=>
 CallW prog 183 [v4,a1] h fun v5 h=>
 av False prog .lss 3 true false v5 (.int .i64 0) h fun v6 h=>
 aD v6 (
 bC False [] [] [(.int .i64 0),(.int .i64 0),(.slice none 0 0),(.int .i64 0)] fun Kn=>
 aF False 4 (ptrTo b3) (Value.agg (Array.mk Kn)) h fun v8 h=>
 ax False 4 (ptrTo b3) h fun v9 _ => κ (Value.tuple (Array.mk [v9,(.int .i64 5)])) h) (
 bV [undef,undef,undef,undef,undef,undef,undef,undef,undef,undef,undef,undef,undef,undef,undef,undef,undef,undef,undef,(.int .i64 0),undef,undef,(.int .i64 0)] h fun uL h Nl=>
 pe b1 uL v5 a2 b3 Nl h κ)) := by kernel_rfl
theorem VT (a0:Value) (h:Heap) (κ:KQ):aJ prog 178 [a0] h κ = (
 bE False a0 h fun v0 h=>
 fieldAddrB False 0 v0 h fun v1 h=>
 load1 False v1 h fun v2 h=>
 bh False v2 h fun v3 h=>
 κ v3 h) := by kernel_rfl
def xT (a0:Value) (l1:List Value) (N0:List Value→Heap→Prop) (v2 v3 v4 v5 v6:Value) (h:Heap) (κ:KQ):Prop :=
 bE False a0 h fun v7 h=>
 fieldAddrB False 0 v7 h fun v8 h=>
 load1 False v8 h fun v9 h=>
 an False 1 v9 (slot l1 26) h fun v10 h=>
 load1 False v10 h fun v11 h=>
 jJ False .not v11 h fun v12 h=>
 aD v12 (
 bE False a0 h fun bI h=>
 fieldAddrB False 0 bI h fun bJ h=>
 load1 False bJ h fun bG h=>
 an False 1 bG (slot l1 26) h fun v16 h=>
 aF False 1 v16 (.bool true) h fun v17 h=>
 κ (Value.tuple (Array.mk [(slot l1 26),(.int .i64 0)])) h) (
 av False prog .add 3 true false (slot l1 26) (.int .i64 1) h fun bQ h=>
 N0 [(slot l1 26),a0,v2,v3,v4,v5,v6,a0,v7,v8,v9,(slot l1 26),v10,v11,v12,(slot l1 15),(slot l1 16),(slot l1 17),(slot l1 18),(slot l1 19),(slot l1 20),(slot l1 21),(slot l1 22),(slot l1 23),(slot l1 26),bQ,bQ] h)
def sC (a0:Value) (l1:List Value) (N0:List Value→Heap→Prop) (h:Heap) (κ:KQ):Prop :=
 bE False a0 h fun v2 h=>
 fieldAddrB False 0 v2 h fun v3 h=>
 load1 False v3 h fun v4 h=>
 bh False v4 h fun v5 h=>
 av False prog .lss 3 false false (slot l1 26) v5 h fun v6 h=>
 aD v6 (
 xT a0 l1 N0 v2 v3 v4 v5 v6 h κ) (
 κ (Value.tuple (Array.mk [(.int .i64 0),(.int .i64 8)])) h)
theorem VU (a0:Value) (h:Heap) (κ:KQ):aJ prog 179 [a0] h κ = (
 bV [undef,undef,undef,undef,undef,undef,undef,undef,undef,undef,undef,undef,undef,undef,undef,undef,undef,undef,undef,undef,undef,undef,(.int .i64 0),(.int .i64 0),undef,undef,(.int .i64 0)] h fun l1 h N0=>
 sC a0 l1 N0 h κ) := by kernel_rfl
def xU (Ds:Nat) (a1 a2 a3:Value) (b3:Nat) (h:Heap) (κ:KQ):Prop :=
 fieldAddrB False 2 (ptrTo Ds) h fun v70 h=>
 load1 False v70 h fun zo h=>
 bC False [(0,1),(1,1),(2,1),(3,1)] [a1,a2,a3,a3] [(.int .i64 0),(.int .i64 0),(.int .i64 0),(.int .i64 0),(.int .i64 0)] fun afl=>
 bC False [(0,5)] [(Value.agg (Array.mk afl))] (aY [(.int .i64 0),(.int .i64 0),(.int .i64 0),(.int .i64 0),(.int .i64 0)] 1) fun afm => ay False afm 54 false fun o73 => ai False o73 h fun b74 h=>
 bB False 54 5 [(.int .i64 0),(.int .i64 0),(.int .i64 0),(.int .i64 0),(.int .i64 0)] false zo (sliceTo 1 1 b74) h fun v76 h=>
 fieldAddrB False 2 (ptrTo Ds) h fun v77 h=>
 aF False 1 v77 v76 h fun v78 h=>
 ax False 4 (ptrTo Ds) h fun v79 h=>
 aF False 4 (ptrTo b3) v79 h fun v80 h=>
 ax False 4 (ptrTo b3) h fun Kk _ => κ (Value.tuple (Array.mk [Kk,(.bool true),(.int .i64 0)])) h
def xV (Ds:Nat) (a1 a2 a3:Value) (b3:Nat) (h:Heap) (κ:KQ):Prop :=
 fieldAddrB False 3 (ptrTo Ds) h fun v82 h=>
 load1 False v82 h fun Kl h=>
 av False prog .add 3 true false Kl (.int .i64 1) h fun F4 h=>
 fieldAddrB False 3 (ptrTo Ds) h fun v85 h=>
 aF False 1 v85 F4 h fun Ng h=>
 fieldAddrB False 2 (ptrTo Ds) h fun v87 h=>
 load1 False v87 h fun S8 h=>
 fieldAddrB False 3 (ptrTo Ds) h fun J1 h=>
 load1 False J1 h fun UP h=>
 bC False [(0,1),(1,1),(3,1),(4,1)] [a1,a2,a3,UP] [(.int .i64 0),(.int .i64 0),(.int .i64 0),(.int .i64 0),(.int .i64 0)] fun afn=>
 bC False [(0,5)] [(Value.agg (Array.mk afn))] (aY [(.int .i64 0),(.int .i64 0),(.int .i64 0),(.int .i64 0),(.int .i64 0)] 1) fun Vj => ay False Vj 54 false fun o92 => ai False o92 h fun b93 h=>
 bB False 54 5 [(.int .i64 0),(.int .i64 0),(.int .i64 0),(.int .i64 0),(.int .i64 0)] false S8 (sliceTo 1 1 b93) h fun M0 h=>
 fieldAddrB False 2 (ptrTo Ds) h fun QY h=>
 aF False 1 QY M0 h fun M1 h=>
 ax False 4 (ptrTo Ds) h fun XP h=>
 aF False 4 (ptrTo b3) XP h fun M3 h=>
 ax False 4 (ptrTo b3) h fun Dr _ => κ (Value.tuple (Array.mk [Dr,(.bool false),(.int .i64 0)])) h
def Eb (b1:Nat) (fW:List Value) (a1 a2:Value) (b3:Nat) (D5:List Value→Heap→Prop) (v17 bQ v19 v20:Value) (h:Heap) (κ:KQ):Prop :=
 fieldAddrB False 2 (ptrTo b1) h fun v21 h=>
 load1 False v21 h fun v22 h=>
 an False 5 v22 (slot fW 28) h fun v23 h=>
 fieldAddrB False 0 v23 h fun v24 h=>
 load1 False v24 h fun v25 h=>
 av False prog .eql 3 false false v25 a1 h fun v26 h=>
 ag (ah v26 false) (fun Bj=>
 fieldAddrB False 2 (ptrTo b1) h Bj) h fun v28 h=>
 ag (ah v26 false) (fun Bk=>
 load1 False v28 h Bk) h fun v30 h=>
 ag (ah v26 false) (fun Dq=>
 Dq (slot fW 28) h) h fun v32 h=>
 ag (ah v26 false) (fun Kj=>
 an False 5 v30 v32 h Kj) h fun ja h=>
 ag (ah v26 false) (fun Na=>
 fieldAddrB False 1 ja h Na) h fun h_ h=>
 ag (ah v26 false) (fun Nb=>
 load1 False h_ h Nb) h fun jZ h=>
 ag (ah v26 false) (fun QX=>
 QX a2 h) h fun v40 h=>
 ag (ah v26 false) (fun Y7=>
 av False prog .eql 3 false false jZ v40 h Y7) h fun ia h=>
 bt False v26 (.bool true) ia h fun j7 h=>
 aD j7 (
 bC False [] [] [(.int .i64 0),(.int .i64 0),(.slice none 0 0),(.int .i64 0)] fun afo=>
 aF False 4 (ptrTo b3) (Value.agg (Array.mk afo)) h fun v45 h=>
 ax False 4 (ptrTo b3) h fun v46 _ => κ (Value.tuple (Array.mk [v46,(.bool false),(.int .i64 4)])) h) (
 av False prog .add 3 true false (slot fW 28) (.int .i64 1) h fun j0 h=>
 D5 [(slot fW 28),v17,bQ,v19,v20,v21,v22,(slot fW 28),v23,v24,v25,a1,v26,v26,v28,v30,v32,ja,h_,jZ,v40,ia,j7,(slot fW 23),(slot fW 24),(slot fW 25),(slot fW 28),j0,j0] h)
def Ec (b1:Nat) (a3 a1 a2:Value) (b3:Nat) (h:Heap) (κ:KQ):Prop :=
 ax False 4 (ptrTo b1) h fun mN h=>
 CallW prog 62 [mN] h fun v49 h=>
 ay False [(.int .i64 0),(.int .i64 0),(.slice none 0 0),(.int .i64 0)] 51 false fun o50 => ai False o50 h fun Ds h=>
 aF False 4 (ptrTo Ds) v49 h fun lQ h=>
 ax False 4 (ptrTo b1) h fun v53 h=>
 CallW prog 63 [v53] h fun v54 h=>
 av False prog .lss 3 true false v54 (.int .i64 0) h fun v55 h=>
 ag (ah v55 true) (fun UE=>
 ax False 4 (ptrTo b1) h UE) h fun oc h=>
 ag (ah v55 true) (fun UG=>
 CallW prog 64 [oc] h UG) h fun v59 h=>
 ag (ah v55 true) (fun UH=>
 av False prog .lss 3 true false v59 (.int .i64 0) h UH) h fun qo h=>
 bt False v55 qo (.bool false) h fun sn h=>
 ag (ah sn true) (fun Zp=>
 ax False 4 (ptrTo b1) h Zp) h fun v64 h=>
 ag (ah sn true) (fun K65=>
 K65 a3 h) h fun v66 h=>
 ag (ah sn true) (fun K67=>
 CallW prog 65 [v64,v66,(.int .i64 (-1))] h K67) h fun xy h=>
 bt False sn xy (.bool false) h fun zn h=>
 aD zn (
 xU Ds a1 a2 a3 b3 h κ) (
 xV Ds a1 a2 a3 b3 h κ)
def xW (b1:Nat) (fW:List Value) (a1 a2:Value) (b3:Nat) (D5:List Value→Heap→Prop) (a3:Value) (h:Heap) (κ:KQ):Prop :=
 fieldAddrB False 2 (ptrTo b1) h fun v17 h=>
 load1 False v17 h fun bQ h=>
 bh False bQ h fun v19 h=>
 av False prog .lss 3 false false (slot fW 28) v19 h fun v20 h=>
 aD v20 (
 Eb b1 fW a1 a2 b3 D5 v17 bQ v19 v20 h κ) (
 Ec b1 a3 a1 a2 b3 h κ)
theorem VV (a0 a1 a2 a3:Value) (h:Heap) (κ:KQ):aJ prog 180 [a0,a1,a2,a3] h κ = (
 ay False (Value.cells a0).toList 51 false fun o0 => ai False o0 h fun b1 h=>
 ay False [(.int .i64 0),(.int .i64 0),(.slice none 0 0),(.int .i64 0)] 51 false fun o2 => ai False o2 h fun b3 h=>
 av False prog .lss 3 true false a1 (.int .i64 0) h fun v4 h=>
 ag (ah v4 false) (fun K5=>
 K5 a3 h) h fun v6 h=>
 ag (ah v4 false) (fun K7=>
 CallW prog 210 [v6] h K7) h fun v8 h=>
 ag (ah v4 false) (fun K9=>
 jJ False .not v8 h K9) h fun v10 h=>
 bt False v4 (.bool true) v10 h fun v11 h=>
 aD v11 (
 bC False [] [] [(.int .i64 0),(.int .i64 0),(.slice none 0 0),(.int .i64 0)] fun F9=>
 aF False 4 (ptrTo b3) (Value.agg (Array.mk F9)) h fun bI h=>
 ax False 4 (ptrTo b3) h fun bJ _ => κ (Value.tuple (Array.mk [bJ,(.bool false),(.int .i64 2)])) h) (
 bV [undef,undef,undef,undef,undef,undef,undef,undef,undef,undef,undef,undef,undef,undef,undef,undef,undef,undef,undef,undef,undef,undef,undef,undef,(.bool false),(.int .i64 0),undef,undef,(.int .i64 0)] h fun fW h D5=>
 xW b1 fW a1 a2 b3 D5 a3 h κ)) := by kernel_rfl
def xX (a0:Value) (l1:List Value) (N0:List Value→Heap→Prop) (h:Heap) (κ:KQ):Prop :=
 oC False a0 h fun v2 h=>
 av False prog .lss 3 false false (slot l1 14) v2 h fun v3 h=>
 aD v3 (
 qU False a0 (slot l1 14) h fun v4 h=>
 jo False .u32 v4 h fun v5 h=>
 av False prog .xor 146 false false (slot l1 11) v5 h fun v6 h=>
 av False prog .mul 146 true false v6 (Value.int .u32 (16777619)) h fun v7 h=>
 av False prog .add 3 true false (slot l1 14) (.int .i64 1) h fun v8 h=>
 N0 [(slot l1 14),a0,v2,v3,(slot l1 11),a0,(slot l1 14),v4,v5,v6,v7,v7,(slot l1 14),v8,v8] h) (
 κ (slot l1 11) h)
theorem VW (a0:Value) (h:Heap) (κ:KQ):aJ prog 181 [a0] h κ = (
 bV [undef,undef,undef,undef,undef,undef,undef,undef,undef,undef,undef,(Value.int .u32 (2166136261)),undef,undef,(.int .i64 0)] h fun l1 h N0=>
 xX a0 l1 N0 h κ) := by kernel_rfl
def Ed (b1:Nat) (h:Heap) (κ:KQ):Prop :=
 aI (fieldAddrB none 0 (ptrTo b1) h fun v _=>some v) h fun v11 h=>
 aI (load1 none v11 h fun v _=>some v) h fun v12 h=>
 aI (fieldAddrB none 1 (ptrTo b1) h fun v _=>some v) h fun bI h=>
 aI (load1 none bI h fun v _=>some v) h fun bJ h=>
 CallW prog 214 [v12] h fun bG h=>
 dI ((gM (fieldAddrB none 1 (ptrTo b1) h fun v _=>some v) bI) && ((gM (load1 none bI h fun v _=>some v) bJ) && true)) (aI (av none prog .add 9 true false (Value.string (ByteArray.mk (Array.mk [116]))) bG h fun v _=>some v) h fun v16 h=>
 aI (av none prog .add 9 true false v16 (Value.string (ByteArray.mk (Array.mk [46,114]))) h fun v _=>some v) h fun v17 h=>
 CallW prog 214 [bJ] h fun bQ h=>
 dI ((gM (av none prog .add 9 true false (Value.string (ByteArray.mk (Array.mk [116]))) bG h fun v _=>some v) v16) && ((gM (av none prog .add 9 true false v16 (Value.string (ByteArray.mk (Array.mk [46,114]))) h fun v _=>some v) v17) && true)) (aI (av none prog .add 9 false false v17 bQ h fun v _=>some v) h fun v19 h=>
 κ v19 h))
def xY (v3:Value) (b1:Nat) (h:Heap) (κ:KQ):Prop :=
 av False prog .eql 3 true false v3 (.int .i64 1) h fun v5 h=>
 aD v5 (
 fieldAddrB False 0 (ptrTo b1) h fun v6 h=>
 load1 False v6 h fun v7 h=>
 CallW prog 214 [v7] h fun v8 h=>
 av False prog .add 9 true false (Value.string (ByteArray.mk (Array.mk [116]))) v8 h fun v9 h=>
 κ v9 h) (
 av False prog .eql 3 true false v3 (.int .i64 2) h fun v10 h=>
 aD v10 (
 Ed b1 h κ) (
 κ (Value.string (ByteArray.mk (Array.mk [63]))) h))
theorem VX (a0:Value) (h:Heap) (κ:KQ):aJ prog 182 [a0] h κ = (
 ay False (Value.cells a0).toList 24 false fun o0 => ai False o0 h fun b1 h=>
 ax False 2 (ptrTo b1) h fun v2 h=>
 CallW prog 43 [v2] h fun v3 h=>
 av False prog .eql 3 true false v3 (.int .i64 0) h fun v4 h=>
 aD v4 (
 κ (Value.string (ByteArray.mk (Array.mk [100,98]))) h) (
 xY v3 b1 h κ)) := by kernel_rfl
def xZ (b1:Nat) (l3:List Value) (a1:Value) (N2:List Value→Heap→Prop) (v4 v5 v6 v7:Value) (h:Heap) (κ:KQ):Prop :=
 fieldAddrB False 2 (ptrTo b1) h fun v8 h=>
 load1 False v8 h fun v9 h=>
 an False 5 v9 (slot l3 17) h fun v10 h=>
 fieldAddrB False 0 v10 h fun v11 h=>
 load1 False v11 h fun v12 h=>
 av False prog .eql 3 false false v12 a1 h fun bI h=>
 aD bI (
 κ (slot l3 17) h) (
 av False prog .add 3 true false (slot l3 17) (.int .i64 1) h fun bJ h=>
 N2 [(slot l3 17),v4,v5,v6,v7,v8,v9,(slot l3 17),v10,v11,v12,a1,bI,(slot l3 13),(slot l3 14),(slot l3 17),bJ,bJ] h)
def sD (b1:Nat) (l3:List Value) (a1:Value) (N2:List Value→Heap→Prop) (h:Heap) (κ:KQ):Prop :=
 fieldAddrB False 2 (ptrTo b1) h fun v4 h=>
 load1 False v4 h fun v5 h=>
 bh False v5 h fun v6 h=>
 av False prog .lss 3 false false (slot l3 17) v6 h fun v7 h=>
 aD v7 (
 xZ b1 l3 a1 N2 v4 v5 v6 v7 h κ) (
 κ (.int .i64 (-1)) h)
theorem VY (a0 a1:Value) (h:Heap) (κ:KQ):aJ prog 183 [a0,a1] h κ = (
 ay False (Value.cells a0).toList 51 false fun o0 => ai False o0 h fun b1 h=>
 bV [undef,undef,undef,undef,undef,undef,undef,undef,undef,undef,undef,undef,undef,undef,(.int .i64 0),undef,undef,(.int .i64 0)] h fun l3 h N2=>
 sD b1 l3 a1 N2 h κ) := by kernel_rfl
def x7 (v5 a2 a0:Value) (Ko:List Value→Heap→Prop) (l3:List Value) (h:Heap):Prop :=
 av False prog .add 3 true false v5 (.int .i64 1) h fun bJ h=>
 av False prog .lss 3 false false bJ a2 h fun bG h=>
 ag (ah bG true) (fun F6=>
 F6 a0 h) h fun v17 h=>
 ag (ah bG true) (fun Kp=>
 Kp bJ h) h fun v19 h=>
 ag (ah bG true) (fun F8=>
 F8 v5 h) h fun v21 h=>
 ag (ah bG true) (fun K22=>
 CallI prog "Less" v17 [v19,v21] h K22) h fun v23 h=>
 bt False bG v23 (.bool false) h fun v24 h=>
 aD v24 (
 Ko [v5,bJ,bJ,bJ,a2,bG,bG,v17,v19,v21,v23,v24,bJ,bJ] h) (
 Ko [v5,bJ,bJ,bJ,a2,bG,bG,v17,v19,v21,v23,v24,(slot l3 24),v5] h)
def Ee (v5 a2 a0:Value) (l3:List Value) (N0:List Value→Heap→Prop) (v4 v6 v8 v10 v11:Value) (N2:List Value→Heap→Prop) (h:Heap):Prop :=
 dN (fun Ko=>
 x7 v5 a2 a0 Ko l3 h) fun l13 h=>
 CallI prog "Less" a0 [(slot l13 13),(slot l3 36)] h fun v25 h=>
 jJ False .not v25 h fun v26 h=>
 aD v26 (
 N0 [(slot l3 36),v4,v5,v5,v5,a2,v6,v6,v8,v10,v11,v5,(slot l13 0),(slot l13 1),(slot l13 2),(slot l13 3),(slot l13 4),(slot l13 5),(slot l13 6),(slot l13 7),(slot l13 8),(slot l13 9),(slot l13 10),(slot l13 11),(slot l13 12),(slot l13 13),a0,(slot l13 13),(slot l3 36),v25,v26,(slot l3 31),(slot l3 32),(slot l3 33),(slot l3 34),(slot l3 35),(slot l3 36)] h) (
 CallI prog "Swap" a0 [(slot l3 36),(slot l13 13)] h fun v27 h=>
 N2 [(slot l3 36),v4,v5,v5,v5,a2,v6,v6,v8,v10,v11,v5,(slot l13 0),(slot l13 1),(slot l13 2),(slot l13 3),(slot l13 4),(slot l13 5),(slot l13 6),(slot l13 7),(slot l13 8),(slot l13 9),(slot l13 10),(slot l13 11),(slot l13 12),(slot l13 13),a0,(slot l13 13),(slot l3 36),v25,v26,a0,(slot l3 36),(slot l13 13),v27,(slot l13 13),(slot l13 13)] h)
def x9 (l3:List Value) (a2:Value) (N0:List Value→Heap→Prop) (a0:Value) (N2:List Value→Heap→Prop) (h:Heap):Prop :=
 av False prog .mul 3 true false (.int .i64 2) (slot l3 36) h fun v4 h=>
 av False prog .add 3 true false v4 (.int .i64 1) h fun v5 h=>
 av False prog .geq 3 false false v5 a2 h fun v6 h=>
 ag (ah v6 false) (fun K7=>
 K7 v5 h) h fun v8 h=>
 ag (ah v6 false) (fun K9=>
 av False prog .lss 3 true false v8 (.int .i64 0) h K9) h fun v10 h=>
 bt False v6 (.bool true) v10 h fun v11 h=>
 aD v11 (
 N0 [(slot l3 36),v4,v5,v5,v5,a2,v6,v6,v8,v10,v11,(slot l3 11),(slot l3 12),(slot l3 13),(slot l3 14),(slot l3 15),(slot l3 16),(slot l3 17),(slot l3 18),(slot l3 19),(slot l3 20),(slot l3 21),(slot l3 22),(slot l3 23),(slot l3 24),(slot l3 25),(slot l3 26),(slot l3 27),(slot l3 28),(slot l3 29),(slot l3 30),(slot l3 31),(slot l3 32),(slot l3 33),(slot l3 34),(slot l3 35),(slot l3 36)] h) (
 Ee v5 a2 a0 l3 N0 v4 v6 v8 v10 v11 N2 h)
theorem VZ (a0 a1 a2:Value) (h:Heap) (κ:KQ):aJ prog 184 [a0,a1,a2] h κ = (
 dN (fun N0=>
 bV [undef,undef,undef,undef,undef,undef,undef,undef,undef,undef,undef,undef,undef,undef,undef,undef,undef,undef,undef,undef,undef,undef,undef,undef,undef,undef,undef,undef,undef,undef,undef,undef,undef,undef,undef,undef,a1] h fun l3 h N2=>
 x9 l3 a2 N0 a0 N2 h) fun l1 h=>
 av False prog .gtr 3 false false (slot l1 36) a1 h fun v28 h=>
 κ v28 h) := by kernel_rfl
theorem V0 (a0:Value) (h:Heap) (κ:KQ):aJ prog 185 [a0] h κ = (
 ay False (Value.cells a0).toList 54 false fun o0 => ai False o0 h fun b1 h=>
 ax False 5 (ptrTo b1) h fun v2 h=>
 CallW prog 187 [v2] h fun v3 h=>
 ag (ah v3 true) (fun K4=>
 ax False 5 (ptrTo b1) h K4) h fun v5 h=>
 ag (ah v3 true) (fun K6=>
 CallW prog 193 [v5] h K6) h fun v7 h=>
 bt False v3 v7 (.bool false) h fun v8 h=>
 κ v8 h) := by kernel_rfl
theorem V1 (a0:Value) (h:Heap) (κ:KQ):aJ prog 186 [a0] h κ = (
 ay False (Value.cells a0).toList 54 false fun o0 => ai False o0 h fun b1 h=>
 ax False 5 (ptrTo b1) h fun v2 h=>
 CallW prog 187 [v2] h fun v3 h=>
 jJ False .not v3 h fun v4 h=>
 κ v4 h) := by kernel_rfl
theorem V2 (a0:Value) (h:Heap) (κ:KQ):aJ prog 187 [a0] h κ = (
 ay False (Value.cells a0).toList 54 false fun o0 => ai False o0 h fun b1 h=>
 fieldAddrB False 2 (ptrTo b1) h fun v2 h=>
 load1 False v2 h fun v3 h=>
 av False prog .neq 33 true false v3 (.int .i64 0) h fun v4 h=>
 κ v4 h) := by kernel_rfl
theorem V3 (a0 a1:Value) (h:Heap) (κ:KQ):aJ prog 188 [a0,a1] h κ = (
 ay False (Value.cells a0).toList 54 false fun o0 => ai False o0 h fun b1 h=>
 fieldAddrB False 0 (ptrTo b1) h fun v2 h=>
 load1 False v2 h fun v3 h=>
 fieldAddrB False 0 a1 h fun v4 h=>
 load1 False v4 h fun v5 h=>
 av False prog .neq 3 false false v3 v5 h fun v6 h=>
 ag (ah v6 true) (fun K7=>
 ax False 5 (ptrTo b1) h K7) h fun v8 h=>
 ag (ah v6 true) (fun K9=>
 CallW prog 187 [v8] h K9) h fun v10 h=>
 bt False v6 v10 (.bool false) h fun v11 h=>
 ag (ah v11 true) (fun tU=>
 fieldAddrB False 2 (ptrTo b1) h tU) h fun bI h=>
 ag (ah v11 true) (fun Dl=>
 load1 False bI h Dl) h fun bG h=>
 ag (ah v11 true) (fun F6=>
 fieldAddrB False 3 a1 h F6) h fun v17 h=>
 ag (ah v11 true) (fun Kp=>
 load1 False v17 h Kp) h fun v19 h=>
 ag (ah v11 true) (fun F8=>
 CallW prog 189 [bG,v19] h F8) h fun v21 h=>
 ag (ah v11 true) (fun K22=>
 jJ False .not v21 h K22) h fun v23 h=>
 bt False v11 v23 (.bool false) h fun v24 h=>
 κ v24 h) := by kernel_rfl
theorem V4 (h:Heap) (κ:KQ):aJ prog 190 [] h κ = (
 ay False [(.int .i64 0),(.int .i64 0)] 24 false fun o0 => ai False o0 h fun b1 h=>
 bC False [(0,1),(1,1)] [(.int .i64 (-1)),(.int .i64 (-1))] [(.int .i64 0),(.int .i64 0)] fun cs2=>
 aF False 2 (ptrTo b1) (Value.agg (Array.mk cs2)) h fun v3 h=>
 ax False 2 (ptrTo b1) h fun v4 _ => κ v4 h) := by kernel_rfl
theorem V5 (a0:Value) (h:Heap) (κ:KQ):aJ prog 191 [a0] h κ = (
 av False prog .geq 3 true false a0 (.int .i64 0) h fun v0 h=>
 ag (ah v0 true) (fun K1=>
 K1 a0 h) h fun v2 h=>
 ag (ah v0 true) (fun K3=>
 av False prog .lss 3 true false v2 (.int .i64 100) h K3) h fun v4 h=>
 bt False v0 v4 (.bool false) h fun v5 h=>
 κ v5 h) := by kernel_rfl
theorem V6 (a0:Value) (h:Heap) (κ:KQ):aJ prog 193 [a0] h κ = (
 ay False (Value.cells a0).toList 54 false fun o0 => ai False o0 h fun b1 h=>
 fieldAddrB False 4 (ptrTo b1) h fun v2 h=>
 load1 False v2 h fun v3 h=>
 av False prog .gtr 3 true false v3 (.int .i64 0) h fun v4 h=>
 κ v4 h) := by kernel_rfl
theorem V7 (a0 a1 a2:Value) (h:Heap) (κ:KQ):aJ prog 195 [a0,a1,a2] h κ = (
 ay False (Value.cells a0).toList 54 false fun o0 => ai False o0 h fun b1 h=>
 fieldAddrB False 0 (ptrTo b1) h fun v2 h=>
 load1 False v2 h fun v3 h=>
 load1 False a1 h fun v4 h=>
 av False prog .neq 3 false false v3 v4 h fun v5 h=>
 ag (ah v5 true) (fun K6=>
 fieldAddrB False 1 (ptrTo b1) h K6) h fun v7 h=>
 ag (ah v5 true) (fun K8=>
 load1 False v7 h K8) h fun v9 h=>
 ag (ah v5 true) (fun yV=>
 load1 False a2 h yV) h fun v11 h=>
 ag (ah v5 true) (fun tU=>
 av False prog .eql 3 false false v9 v11 h tU) h fun bI h=>
 bt False v5 bI (.bool false) h fun bJ h=>
 κ bJ h) := by kernel_rfl
theorem V8 (a0:Value) (h:Heap) (κ:KQ):aJ prog 196 [a0] h κ = (
 CallW prog 219 [(.slice none 0 0),a0] h fun v0 h=>
 κ v0 h) := by kernel_rfl
theorem V9 (a0 a1:Value) (h:Heap) (κ:KQ):aJ prog 197 [a0,a1] h κ = (
 bh False a0 h fun v0 h=>
 jo False .u64 v0 h fun v1 h=>
 CallW prog 109 [v1] h fun v2 h=>
 CallW prog 220 [a0,(.int .i64 0),v0,v2,a1] h fun v3 h=>
 κ (Value.tuple (Array.mk [])) h) := by kernel_rfl
theorem V_ (a0 a1:Value) (h:Heap) (κ:KQ):aJ prog 207 [a0,a1] h κ = (
 ay False (Value.cells a0).toList 54 false fun o0 => ai False o0 h fun b1 h=>
 fieldAddrB False 0 (ptrTo b1) h fun v2 h=>
 load1 False v2 h fun v3 h=>
 load1 False a1 h fun v4 h=>
 av False prog .eql 3 false false v3 v4 h fun v5 h=>
 κ v5 h) := by kernel_rfl
theorem Wa (a0 a1:Value) (h:Heap) (κ:KQ):aJ prog 209 [a0,a1] h κ = (
 ay False (Value.cells a0).toList 54 false fun o0 => ai False o0 h fun b1 h=>
 fieldAddrB False 0 (ptrTo b1) h fun v2 h=>
 load1 False v2 h fun v3 h=>
 load1 False a1 h fun v4 h=>
 av False prog .eql 3 false false v3 v4 h fun v5 h=>
 κ v5 h) := by kernel_rfl
theorem Wb (a0:Value) (h:Heap) (κ:KQ):aJ prog 210 [a0] h κ = (
 av False prog .neq 33 true false a0 (.int .i64 0) h fun v0 h=>
 ag (ah v0 true) (fun K1=>
 K1 a0 h) h fun v2 h=>
 ag (ah v0 true) (fun K3=>
 CallW prog 69 [v2] h K3) h fun v4 h=>
 bt False v0 v4 (.bool false) h fun v5 h=>
 κ v5 h) := by kernel_rfl
theorem Wc (a0 a1:Value) (h:Heap) (κ:KQ):aJ prog 212 [a0,a1] h κ = (
 ay False (Value.cells a0).toList 51 false fun o0 => ai False o0 h fun b1 h=>
 ay False [(.int .i64 0),(.int .i64 0),(.slice none 0 0),(.int .i64 0)] 51 false fun o2 => ai False o2 h fun b3 h=>
 ax False 4 (ptrTo b1) h fun v4 h=>
 CallW prog 62 [v4] h fun v5 h=>
 ay False [(.int .i64 0),(.int .i64 0),(.slice none 0 0),(.int .i64 0)] 51 false fun o6 => ai False o6 h fun b7 h=>
 aF False 4 (ptrTo b7) v5 h fun v8 h=>
 aI (fieldAddrB none 2 (ptrTo b7) h fun v _=>some v) h fun v9 h=>
 aI (load1 none v9 h fun v _=>some v) h fun v10 h=>
 aI (some a1) h fun v11 h=>
 aI (sliceB none 54 5 v10 none (some v11) none h fun v _=>some v) h fun v12 h=>
 aI (fieldAddrB none 2 (ptrTo b1) h fun v _=>some v) h fun bI h=>
 aI (load1 none bI h fun v _=>some v) h fun bJ h=>
 aI (some a1) h fun bG h=>
 aI (av none prog .add 3 true false bG (.int .i64 1) h fun v _=>some v) h fun v16 h=>
 aI (sliceB none 54 5 bJ (some v16) none none h fun v _=>some v) h fun v17 h=>
 bB False 54 5 [(.int .i64 0),(.int .i64 0),(.int .i64 0),(.int .i64 0),(.int .i64 0)] false v12 v17 h fun bQ h=>
 aI (fieldAddrB none 2 (ptrTo b7) h fun v _=>some v) h fun v19 h=>
 aF False 1 v19 bQ h fun v20 h=>
 ax False 4 (ptrTo b7) h fun v21 h=>
 aF False 4 (ptrTo b3) v21 h fun v22 h=>
 ax False 4 (ptrTo b3) h fun v23 _ => κ v23 h) := by kernel_rfl
theorem We (a0 a1:Value) (h:Heap) (κ:KQ):aJ prog 213 [a0,a1] h κ = (
 av False prog .geq 3 true false a1 (.int .i64 0) h fun v0 h=>
 ag (ah v0 true) (fun K1=>
 K1 a1 h) h fun v2 h=>
 ag (ah v0 true) (fun K3=>
 K3 a0 h) h fun v4 h=>
 ag (ah v0 true) (fun K5=>
 bE False v4 h K5) h fun v6 h=>
 ag (ah v0 true) (fun K7=>
 fieldAddrB False 0 v6 h K7) h fun v8 h=>
 ag (ah v0 true) (fun K9=>
 load1 False v8 h K9) h fun v10 h=>
 ag (ah v0 true) (fun K11=>
 bh False v10 h K11) h fun v12 h=>
 ag (ah v0 true) (fun UN=>
 av False prog .lss 3 false false v2 v12 h UN) h fun bJ h=>
 bt False v0 bJ (.bool false) h fun bG h=>
 ag (ah bG true) (fun F6=>
 F6 a0 h) h fun v17 h=>
 ag (ah bG true) (fun Kp=>
 bE False v17 h Kp) h fun v19 h=>
 ag (ah bG true) (fun F8=>
 fieldAddrB False 0 v19 h F8) h fun v21 h=>
 ag (ah bG true) (fun K22=>
 load1 False v21 h K22) h fun v23 h=>
 ag (ah bG true) (fun Km=>
 Km a1 h) h fun v25 h=>
 ag (ah bG true) (fun Dn=>
 an False 1 v23 v25 h Dn) h fun v27 h=>
 ag (ah bG true) (fun F7=>
 load1 False v27 h F7) h fun gN h=>
 bt False bG gN (.bool false) h fun v30 h=>
 κ v30 h) := by kernel_rfl
def Nn (a0:Value) (l1:List Value) (fW:List Value) (a4 v2:Value) (l8:List Value) (N0:List Value→Heap→Prop) (v3 v5 v12 bI bJ:Value) (mL:List Value) (v33 ja v35 v37 v39 v41 j7 v45 j0 v49 v51 v53 v55 oc v59 qo sn:Value) (h:Heap):Prop :=
 CallW prog 232 [a0,(slot l1 127),(slot l1 140),(slot fW 13),a4] h fun v64 h=>
 au False 0 v64 h fun mh h=>
 au False 1 v64 h fun v66 h=>
 av False prog .sub 3 false false mh (slot l1 127) h fun v67 h=>
 av False prog .sub 3 false false (slot l1 140) mh h fun xy h=>
 av False prog .quo 3 true false v2 (.int .i64 8) h fun zn h=>
 av False prog .lss 3 false false v67 xy h fun v70 h=>
 aD v70 (
 av False prog .geq 3 false false v67 zn h fun zo h=>
 CallW prog 220 [a0,(slot l1 127),mh,(slot l8 9),a4] h fun v72 h=>
 av False prog .add 3 true false mh (.int .i64 1) h fun Ic h=>
 N0 [(slot l1 140),(slot l1 127),v2,v2,v2,v3,(slot l1 6),(slot l1 7),(slot l1 8),(slot l1 9),(slot l1 10),(slot l1 27),v5,(slot l1 13),(slot l1 14),(slot l1 15),(slot l1 16),(slot l1 17),(slot l8 0),(slot l8 1),(slot l8 2),(slot l8 3),(slot l8 4),(slot l8 5),(slot l8 6),(slot l8 7),(slot l8 8),(slot l8 9),a0,(slot l1 127),(slot l1 140),a4,v12,v12,bI,bJ,(slot fW 0),(slot fW 1),(slot fW 2),(slot fW 3),(slot fW 4),(slot fW 5),(slot fW 6),(slot fW 7),(slot fW 8),(slot fW 9),(slot fW 10),(slot fW 11),(slot fW 12),(slot fW 13),(slot fW 14),(slot mL 0),(slot mL 1),(slot mL 2),(slot mL 3),(slot mL 4),(slot mL 5),(slot mL 6),(slot mL 7),(slot mL 8),(slot mL 9),(slot mL 10),(slot mL 11),(slot mL 12),v33,ja,v35,v37,v39,v41,j7,v45,j0,v49,v51,v53,v55,oc,v59,qo,sn,(slot l1 81),(slot l1 82),(slot l1 83),(slot l1 84),(slot l1 85),(slot l1 86),(slot l1 87),(slot l1 88),a0,(slot l1 127),(slot l1 140),(slot fW 13),a4,v64,v64,mh,v66,mh,v66,v66,v66,mh,(slot l1 127),v67,(slot l1 140),mh,xy,v67,xy,v2,zn,zn,v67,xy,v70,v67,zn,zo,a0,(slot l1 127),mh,(slot l8 9),a4,v72,mh,Ic,Ic,(slot l1 128),(slot l1 129),(slot l1 130),zo,(slot l1 132),(slot l1 133),(slot l1 134),(slot l1 135),(slot l1 136),(slot l1 137),(slot l1 138),(slot l1 139),(slot l1 140)] h) (
 av False prog .geq 3 false false xy zn h fun sk h=>
 av False prog .add 3 true false mh (.int .i64 1) h fun v75 h=>
 CallW prog 220 [a0,v75,(slot l1 140),(slot l8 9),a4] h fun v76 h=>
 N0 [(slot l1 140),(slot l1 127),v2,v2,v2,v3,(slot l1 6),(slot l1 7),(slot l1 8),(slot l1 9),(slot l1 10),(slot l1 27),v5,(slot l1 13),(slot l1 14),(slot l1 15),(slot l1 16),(slot l1 17),(slot l8 0),(slot l8 1),(slot l8 2),(slot l8 3),(slot l8 4),(slot l8 5),(slot l8 6),(slot l8 7),(slot l8 8),(slot l8 9),a0,(slot l1 127),(slot l1 140),a4,v12,v12,bI,bJ,(slot fW 0),(slot fW 1),(slot fW 2),(slot fW 3),(slot fW 4),(slot fW 5),(slot fW 6),(slot fW 7),(slot fW 8),(slot fW 9),(slot fW 10),(slot fW 11),(slot fW 12),(slot fW 13),(slot fW 14),(slot mL 0),(slot mL 1),(slot mL 2),(slot mL 3),(slot mL 4),(slot mL 5),(slot mL 6),(slot mL 7),(slot mL 8),(slot mL 9),(slot mL 10),(slot mL 11),(slot mL 12),v33,ja,v35,v37,v39,v41,j7,v45,j0,v49,v51,v53,v55,oc,v59,qo,sn,(slot l1 81),(slot l1 82),(slot l1 83),(slot l1 84),(slot l1 85),(slot l1 86),(slot l1 87),(slot l1 88),a0,(slot l1 127),(slot l1 140),(slot fW 13),a4,v64,v64,mh,v66,mh,v66,v66,v66,mh,(slot l1 127),v67,(slot l1 140),mh,xy,v67,xy,v2,zn,zn,v67,xy,v70,(slot l1 116),(slot l1 117),(slot l1 118),(slot l1 119),(slot l1 120),(slot l1 121),(slot l1 122),(slot l1 123),(slot l1 124),(slot l1 125),(slot l1 126),(slot l1 127),xy,zn,sk,sk,a0,mh,v75,(slot l1 140),(slot l8 9),a4,v76,mh,mh] h)
def No (l1:List Value) (fW:List Value) (a0 a4:Value) (N22:List Value→Heap→Prop) (h:Heap) (κ:KQ):Prop :=
 ag (ah (slot l1 131) true) (fun Km=>
 Km (slot l1 101) h) h fun v25 h=>
 bt False (slot l1 131) v25 (.bool false) h fun v26 h=>
 ag (ah v26 true) (fun Bj=>
 Bj (slot fW 14) h) h fun v28 h=>
 ag (ah v26 true) (fun Bk=>
 av False prog .eql 189 true false v28 (.int .i64 1) h Bk) h fun v30 h=>
 bt False v26 v30 (.bool false) h fun v31 h=>
 aD v31 (
 CallW prog 230 [a0,(slot l1 127),(slot l1 140),a4] h fun v32 h=>
 aD v32 (
 κ (Value.tuple (Array.mk [])) h) (
 N22 [(slot l1 131),(slot l1 131),v25,v26,v26,v28,v30,v31,a0,(slot l1 127),(slot l1 140),a4,v32] h)) (
 N22 [(slot l1 131),(slot l1 131),v25,v26,v26,v28,v30,v31,(slot l1 59),(slot l1 60),(slot l1 61),(slot l1 62),(slot l1 63)] h)
def Np (l1:List Value) (a4 a0:Value) (fW:List Value) (N0:List Value→Heap→Prop) (v2 v3 v5:Value) (l8:List Value) (v12 bI bJ:Value) (mL:List Value) (h:Heap):Prop :=
 aI (some (slot l1 127)) h fun v33 h=>
 aI (av none prog .gtr 3 true false v33 (.int .i64 0) h fun v _=>some v) h fun ja h=>
 aI (some ja) h fun v35 h=>
 ag (ah v35 true) (fun US=>
 aI (some a4) h US) h fun v37 h=>
 ag (ah v35 true) (fun UT=>
 aI (some a0) h UT) h fun v39 h=>
 ag (ah v35 true) (fun Nc=>
 aI (some (slot l1 127)) h Nc) h fun v41 h=>
 ag (ah v35 true) (fun Nd=>
 aI (av none prog .sub 3 true false v41 (.int .i64 1) h fun v _=>some v) h Nd) h fun j7 h=>
 ag (ah v35 true) (fun Nf=>
 aI (an none 2 v39 j7 h fun v _=>some v) h Nf) h fun v45 h=>
 ag (ah v35 true) (fun Zz=>
 aI (ax none 2 v45 h fun v _=>some v) h Zz) h fun j0 h=>
 ag (ah v35 true) (fun Y8=>
 aI (some a0) h Y8) h fun v49 h=>
 ag (ah v35 true) (fun UD=>
 aI (some (slot fW 13)) h UD) h fun v51 h=>
 ag (ah v35 true) (fun Y9=>
 aI (an none 2 v49 v51 h fun v _=>some v) h Y9) h fun v53 h=>
 ag (ah v35 true) (fun K54=>
 aI (ax none 2 v53 h fun v _=>some v) h K54) h fun v55 h=>
 ag (ah v35 true) (fun UE=>
 lg prog v37 [j0,v55] h UE) h fun oc h=>
 ag (ah v35 true) (fun UG=>
 aI (av none prog .lss 3 true false oc (.int .i64 0) h fun v _=>some v) h UG) h fun v59 h=>
 ag (ah v35 true) (fun UH=>
 aI (jJ none .not v59 h fun v _=>some v) h UH) h fun qo h=>
 aI (bt none v35 qo (.bool false) h fun v _=>some v) h fun sn h=>
 aD sn (
 CallW prog 231 [a0,(slot l1 127),(slot l1 140),(slot fW 13),a4] h fun rM h=>
 N0 [(slot l1 140),(slot l1 127),v2,v2,v2,v3,(slot l1 6),(slot l1 7),(slot l1 8),(slot l1 9),(slot l1 10),(slot l1 27),v5,(slot l1 13),(slot l1 14),(slot l1 15),(slot l1 16),(slot l1 17),(slot l8 0),(slot l8 1),(slot l8 2),(slot l8 3),(slot l8 4),(slot l8 5),(slot l8 6),(slot l8 7),(slot l8 8),(slot l8 9),a0,(slot l1 127),(slot l1 140),a4,v12,v12,bI,bJ,(slot fW 0),(slot fW 1),(slot fW 2),(slot fW 3),(slot fW 4),(slot fW 5),(slot fW 6),(slot fW 7),(slot fW 8),(slot fW 9),(slot fW 10),(slot fW 11),(slot fW 12),(slot fW 13),(slot fW 14),(slot mL 0),(slot mL 1),(slot mL 2),(slot mL 3),(slot mL 4),(slot mL 5),(slot mL 6),(slot mL 7),(slot mL 8),(slot mL 9),(slot mL 10),(slot mL 11),(slot mL 12),v33,ja,v35,v37,v39,v41,j7,v45,j0,v49,v51,v53,v55,oc,v59,qo,sn,a0,(slot l1 127),(slot l1 140),(slot fW 13),a4,rM,rM,rM,(slot l1 89),(slot l1 90),(slot l1 91),(slot l1 92),(slot l1 93),(slot l1 94),(slot l1 95),(slot l1 96),(slot l1 97),(slot l1 98),(slot l1 99),(slot l1 100),(slot l1 101),(slot l1 102),(slot l1 103),(slot l1 104),(slot l1 105),(slot l1 106),(slot l1 107),(slot l1 108),(slot l1 109),(slot l1 110),(slot l1 111),(slot l1 112),(slot l1 113),(slot l1 114),(slot l1 115),(slot l1 116),(slot l1 117),(slot l1 118),(slot l1 119),(slot l1 120),(slot l1 121),(slot l1 122),(slot l1 123),(slot l1 124),(slot l1 125),(slot l1 126),rM,(slot l1 128),(slot l1 129),(slot l1 130),(slot l1 131),(slot l1 132),(slot l1 133),(slot l1 134),(slot l1 135),(slot l1 136),(slot l1 137),(slot l1 138),(slot l1 139),(slot l1 140)] h) (
 Nn a0 l1 fW a4 v2 l8 N0 v3 v5 v12 bI bJ mL v33 ja v35 v37 v39 v41 j7 v45 j0 v49 v51 v53 v55 oc v59 qo sn h)
def Nq (bJ a0:Value) (l1:List Value) (a4 bI:Value) (D5:List Value→Heap→Prop) (h:Heap):Prop :=
 av False prog .eql 189 true false bJ (.int .i64 2) h fun v17 h=>
 aD v17 (
 CallW prog 229 [a0,(slot l1 127),(slot l1 140),a4] h fun bQ h=>
 av False prog .sub 3 true false (slot l1 140) (.int .i64 1) h fun v19 h=>
 av False prog .sub 3 false false bI (slot l1 127) h fun v20 h=>
 av False prog .sub 3 false false v19 v20 h fun v21 h=>
 D5 [bJ,v17,a0,(slot l1 127),(slot l1 140),a4,bQ,(slot l1 140),v19,bI,(slot l1 127),v20,v21,v21,(.int .i64 1)] h) (
 D5 [bJ,v17,(slot l1 38),(slot l1 39),(slot l1 40),(slot l1 41),(slot l1 42),(slot l1 43),(slot l1 44),(slot l1 45),(slot l1 46),(slot l1 47),(slot l1 48),bI,bJ] h)
def Nr (a0:Value) (l1:List Value) (a4:Value) (N0:List Value→Heap→Prop) (v2 v3 v5:Value) (l8:List Value) (h:Heap) (κ:KQ):Prop :=
 CallW prog 228 [a0,(slot l1 127),(slot l1 140),a4] h fun v12 h=>
 au False 0 v12 h fun bI h=>
 au False 1 v12 h fun bJ h=>
 dN (fun D5=>
 Nq bJ a0 l1 a4 bI D5 h) fun fW h=>
 dN (fun N22=>
 No l1 fW a0 a4 N22 h κ) fun mL h=>
 Np l1 a4 a0 fW N0 v2 v3 v5 l8 v12 bI bJ mL h
def Ns (l1:List Value) (a0 a4:Value) (N0:List Value→Heap→Prop) (v2 v3 v5:Value) (h:Heap) (κ:KQ):Prop :=
 dN (fun N7=>
 jJ False .not (slot l1 131) h fun v9 h=>
 aD v9 (
 CallW prog 227 [a0,(slot l1 127),(slot l1 140),a4] h fun v10 h=>
 av False prog .sub 3 true false (slot l1 27) (.int .i64 1) h fun v11 h=>
 N7 [(slot l1 131),v9,a0,(slot l1 127),(slot l1 140),a4,v10,(slot l1 27),v11,v11] h) (
 N7 [(slot l1 131),v9,(slot l1 20),(slot l1 21),(slot l1 22),(slot l1 23),(slot l1 24),(slot l1 25),(slot l1 26),(slot l1 27)] h)) fun l8 h=>
 Nr a0 l1 a4 N0 v2 v3 v5 l8 h κ
def Ef (l1:List Value) (a0 a4:Value) (N0:List Value→Heap→Prop) (h:Heap) (κ:KQ):Prop :=
 av False prog .sub 3 false false (slot l1 140) (slot l1 127) h fun v2 h=>
 av False prog .leq 3 true false v2 (.int .i64 12) h fun v3 h=>
 aD v3 (
 CallW prog 225 [a0,(slot l1 127),(slot l1 140),a4] h fun v4 h=>
 κ (Value.tuple (Array.mk [])) h) (
 av False prog .eql 3 true false (slot l1 27) (.int .i64 0) h fun v5 h=>
 aD v5 (
 CallW prog 226 [a0,(slot l1 127),(slot l1 140),a4] h fun v6 h=>
 κ (Value.tuple (Array.mk [])) h) (
 Ns l1 a0 a4 N0 v2 v3 v5 h κ))
theorem Wf (a0 a1 a2 a3 a4:Value) (h:Heap) (κ:KQ):aJ prog 220 [a0,a1,a2,a3,a4] h κ = (
 bV [undef,undef,undef,undef,undef,undef,undef,undef,undef,undef,undef,undef,undef,undef,undef,undef,undef,undef,undef,undef,undef,undef,undef,undef,undef,undef,undef,a3,undef,undef,undef,undef,undef,undef,undef,undef,undef,undef,undef,undef,undef,undef,undef,undef,undef,undef,undef,undef,undef,undef,undef,undef,undef,undef,undef,undef,undef,undef,undef,undef,undef,undef,undef,undef,undef,undef,undef,undef,undef,undef,undef,undef,undef,undef,undef,undef,undef,undef,undef,undef,undef,undef,undef,undef,undef,undef,undef,undef,undef,undef,undef,undef,undef,undef,undef,undef,undef,undef,undef,undef,undef,(.bool true),undef,undef,undef,undef,undef,undef,undef,undef,undef,undef,undef,undef,undef,undef,undef,undef,undef,undef,undef,undef,undef,undef,undef,undef,undef,a1,undef,undef,undef,(.bool true),undef,undef,undef,undef,undef,undef,undef,undef,a2] h fun l1 h N0=>
 Ef l1 a0 a4 N0 h κ) := by kernel_rfl
def Nt (a0:Value) (l5:List Value) (N4:List Value→Heap→Prop) (v6 v7 v8 v9 v11 bI bG v17 v19 v21 v23 v25 v27 gN v31 v33 ja:Value) (h:Heap):Prop :=
 aI (some a0) h fun v35 h=>
 aI (some (slot l5 35)) h fun h_ h=>
 aI (some a0) h fun v37 h=>
 aI (some (slot l5 35)) h fun jZ h=>
 aI (av none prog .sub 3 true false jZ (.int .i64 1) h fun v _=>some v) h fun v39 h=>
 aI (some a0) h fun v40 h=>
 aI (some (slot l5 35)) h fun v41 h=>
 aI (av none prog .sub 3 true false v41 (.int .i64 1) h fun v _=>some v) h fun ia h=>
 aI (an none 2 v40 ia h fun v _=>some v) h fun j7 h=>
 aI (ax none 2 j7 h fun v _=>some v) h fun v44 h=>
 aI (some a0) h fun v45 h=>
 aI (some (slot l5 35)) h fun v46 h=>
 aI (an none 2 v45 v46 h fun v _=>some v) h fun j0 h=>
 aI (ax none 2 j0 h fun v _=>some v) h fun mN h=>
 aI (an none 2 v35 h_ h fun v _=>some v) h fun v49 h=>
 aF False 2 v49 v44 h fun v50 h=>
 dI ((gM (some a0) v37) && ((gM (some (slot l5 35)) jZ) && ((gM (av none prog .sub 3 true false jZ (.int .i64 1) h fun v _=>some v) v39) && true))) (aI (an none 2 v37 v39 h fun v _=>some v) h fun v51 h=>
 aF False 2 v51 mN h fun lQ h=>
 av False prog .sub 3 true false (slot l5 35) (.int .i64 1) h fun v53 h=>
 N4 [v6,v7,v8,v9,v11,bI,bG,v17,v19,v21,v23,v25,v27,gN,v31,v33,ja,v35,h_,v37,jZ,v39,v40,v41,ia,j7,v44,v45,v46,j0,mN,v49,v51,(slot l5 35),v53,v53] h)
def Nu (l5:List Value) (a1 a3 a0:Value) (N4:List Value→Heap→Prop) (l2:List Value) (N1:List Value→Heap→Prop) (a2 v3:Value) (h:Heap):Prop :=
 aI (some (slot l5 35)) h fun v6 h=>
 aI (some a1) h fun v7 h=>
 aI (av none prog .gtr 3 false false v6 v7 h fun v _=>some v) h fun v8 h=>
 aI (some v8) h fun v9 h=>
 ag (ah v9 true) (fun yV=>
 aI (some a3) h yV) h fun v11 h=>
 ag (ah v9 true) (fun tU=>
 aI (some a0) h tU) h fun bI h=>
 ag (ah v9 true) (fun Dl=>
 aI (some (slot l5 35)) h Dl) h fun bG h=>
 ag (ah v9 true) (fun F6=>
 aI (an none 2 bI bG h fun v _=>some v) h F6) h fun v17 h=>
 ag (ah v9 true) (fun Kp=>
 aI (ax none 2 v17 h fun v _=>some v) h Kp) h fun v19 h=>
 ag (ah v9 true) (fun F8=>
 aI (some a0) h F8) h fun v21 h=>
 ag (ah v9 true) (fun K22=>
 aI (some (slot l5 35)) h K22) h fun v23 h=>
 ag (ah v9 true) (fun Km=>
 aI (av none prog .sub 3 true false v23 (.int .i64 1) h fun v _=>some v) h Km) h fun v25 h=>
 ag (ah v9 true) (fun Dn=>
 aI (an none 2 v21 v25 h fun v _=>some v) h Dn) h fun v27 h=>
 ag (ah v9 true) (fun F7=>
 aI (ax none 2 v27 h fun v _=>some v) h F7) h fun gN h=>
 ag (ah v9 true) (fun Kg=>
 lg prog v11 [v19,gN] h Kg) h fun v31 h=>
 ag (ah v9 true) (fun UR=>
 aI (av none prog .lss 3 true false v31 (.int .i64 0) h fun v _=>some v) h UR) h fun v33 h=>
 aI (bt none v9 v33 (.bool false) h fun v _=>some v) h fun ja h=>
 aD ja (
 Nt a0 l5 N4 v6 v7 v8 v9 v11 bI bG v17 v19 v21 v23 v25 v27 gN v31 v33 ja h) (
 av False prog .add 3 true false (slot l2 42) (.int .i64 1) h fun v54 h=>
 N1 [(slot l2 42),a2,v3,(slot l2 42),v6,v7,v8,v9,v11,bI,bG,v17,v19,v21,v23,v25,v27,gN,v31,v33,ja,(slot l5 17),(slot l5 18),(slot l5 19),(slot l5 20),(slot l5 21),(slot l5 22),(slot l5 23),(slot l5 24),(slot l5 25),(slot l5 26),(slot l5 27),(slot l5 28),(slot l5 29),(slot l5 30),(slot l5 31),(slot l5 32),(slot l5 33),(slot l5 34),(slot l5 35),(slot l2 42),v54,v54] h)
theorem Wg (a0 a1 a2 a3:Value) (h:Heap) (κ:KQ):aJ prog 225 [a0,a1,a2,a3] h κ = (
 av False prog .add 3 true false a1 (.int .i64 1) h fun v0 h=>
 bV [undef,undef,undef,undef,undef,undef,undef,undef,undef,undef,undef,undef,undef,undef,undef,undef,undef,undef,undef,undef,undef,undef,undef,undef,undef,undef,undef,undef,undef,undef,undef,undef,undef,undef,undef,undef,undef,undef,undef,undef,undef,undef,v0] h fun l2 h N1=>
 av False prog .lss 3 false false (slot l2 42) a2 h fun v3 h=>
 aD v3 (
 bV [(slot l2 4),(slot l2 5),(slot l2 6),(slot l2 7),(slot l2 8),(slot l2 9),(slot l2 10),(slot l2 11),(slot l2 12),(slot l2 13),(slot l2 14),(slot l2 15),(slot l2 16),(slot l2 17),(slot l2 18),(slot l2 19),(slot l2 20),(slot l2 21),(slot l2 22),(slot l2 23),(slot l2 24),(slot l2 25),(slot l2 26),(slot l2 27),(slot l2 28),(slot l2 29),(slot l2 30),(slot l2 31),(slot l2 32),(slot l2 33),(slot l2 34),(slot l2 35),(slot l2 36),(slot l2 37),(slot l2 38),(slot l2 42)] h fun l5 h N4=>
 Nu l5 a1 a3 a0 N4 l2 N1 a2 v3 h) (
 κ (Value.tuple (Array.mk [])) h)) := by kernel_rfl
theorem Wh (a0 a1 a2:Value) (h:Heap) (κ:KQ):aJ prog 263 [a0,a1,a2] h κ = (
 aI (some a0) h fun v0 h=>
 aI (some a1) h fun v1 h=>
 aI (an none 1 v0 v1 h fun v _=>some v) h fun v2 h=>
 aI (load1 none v2 h fun v _=>some v) h fun v3 h=>
 aI (some a0) h fun v4 h=>
 aI (some a2) h fun v5 h=>
 aI (an none 1 v4 v5 h fun v _=>some v) h fun v6 h=>
 aI (load1 none v6 h fun v _=>some v) h fun v7 h=>
 aI (av none prog .lss 3 false false v3 v7 h fun v _=>some v) h fun v8 h=>
 κ v8 h) := by kernel_rfl
theorem Wi (a0 a1 a2:Value) (h:Heap) (κ:KQ):aJ prog 265 [a0,a1,a2] h κ = (
 aI (some a0) h fun v0 h=>
 aI (some a1) h fun v1 h=>
 aI (some a0) h fun v2 h=>
 aI (some a2) h fun v3 h=>
 aI (some a0) h fun v4 h=>
 aI (some a2) h fun v5 h=>
 aI (an none 1 v4 v5 h fun v _=>some v) h fun v6 h=>
 aI (load1 none v6 h fun v _=>some v) h fun v7 h=>
 aI (some a0) h fun v8 h=>
 aI (some a1) h fun v9 h=>
 aI (an none 1 v8 v9 h fun v _=>some v) h fun v10 h=>
 aI (load1 none v10 h fun v _=>some v) h fun v11 h=>
 aI (an none 1 v0 v1 h fun v _=>some v) h fun v12 h=>
 aF False 1 v12 v7 h fun bI h=>
 dI ((gM (some a0) v2) && ((gM (some a2) v3) && true)) (aI (an none 1 v2 v3 h fun v _=>some v) h fun bJ h=>
 aF False 1 bJ v11 h fun bG h=>
 κ (Value.tuple (Array.mk [])) h)) := by kernel_rfl
theorem Wj (a0:Value) (h:Heap) (κ:KQ):aJ prog 266 [a0] h κ = (
 bE False a0 h fun v0 h=>
 fieldAddrB False 0 v0 h fun v1 h=>
 load1 False v1 h fun v2 h=>
 CallW prog 118 [v2] h fun v3 h=>
 av False prog .sub 3 true false v3 (.int .i64 1) h fun v4 h=>
 bE False a0 h fun v5 h=>
 fieldAddrB False 0 v5 h fun v6 h=>
 load1 False v6 h fun v7 h=>
 an False 1 v7 v4 h fun v8 h=>
 load1 False v8 h fun v9 h=>
 bE False a0 h fun v10 h=>
 fieldAddrB False 0 v10 h fun v11 h=>
 load1 False v11 h fun v12 h=>
 sliceB False 3 1 v12 none (some v4) none h fun bI h=>
 bE False a0 h fun bJ h=>
 fieldAddrB False 0 bJ h fun bG h=>
 aF False 1 bG bI h fun v16 h=>
 κ (Value.iface 3 v9) h) := by kernel_rfl
def Eg (a0 v1:Value) (h:Heap) (κ:KQ):Prop :=
 bE False a0 h fun v3 h=>
 fieldAddrB False 0 v3 h fun v4 h=>
 load1 False v4 h fun v5 h=>
 bC False [(0,1)] [v1] (aY [(.int .i64 0)] 1) fun cs8 => ay False cs8 3 false fun o6 => ai False o6 h fun b7 h=>
 bB False 3 1 [(.int .i64 0)] false v5 (sliceTo 1 1 b7) h fun v9 h=>
 bE False a0 h fun v10 h=>
 fieldAddrB False 0 v10 h fun v11 h=>
 aF False 1 v11 v9 h fun v12 h=>
 κ (Value.tuple (Array.mk [])) h
theorem Wk (a0 a1:Value) (h:Heap) (κ:KQ):aJ prog 267 [a0,a1] h κ = (
 ep False 3 (.int .i64 0) true a1 h fun v0 h=>
 au False 0 v0 h fun v1 h=>
 au False 1 v0 h fun v2 h=>
 aD v2 (
 Eg a0 v1 h κ) (
 κ (Value.tuple (Array.mk [])) h)) := by kernel_rfl
end
end Go.Proofs
