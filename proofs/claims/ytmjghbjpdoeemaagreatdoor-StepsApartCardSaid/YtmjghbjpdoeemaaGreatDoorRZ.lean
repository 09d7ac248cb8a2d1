/-
  PROVED HERE: a part of the proof (RZ).
-/
import Derived.Test.YtmjghbjpdoeemaaGreatDoorV4
import Derived.Test.YtmjghbjpdoeemaaGreatDoorProg
import Derived.KernelRfl
set_option linter.unusedVariables false
set_option linter.unusedSimpArgs false
set_option maxRecDepth 100000
namespace Go.Proofs
open Go.Vai
open Tryz (prog)
noncomputable section
def Ik (b8:Nat) (cE:List Value) (r_:Value) (Xf:List Value→Heap→Prop) (qE:Value) (h:Heap):Prop :=
 dA False 2 1 (ptrTo b8) (slot cE 14) h fun yI h=>
 load1 False yI h fun v75 h=>
 bD False [(0,1)] [r_] (aO [(.int .i64 0)] 1) fun Pn => az False Pn 3 false fun Yt => an False Yt h fun TE h=>
 bE False 3 1 [(.int .i64 0)] false v75 (sliceTo 1 1 TE) h fun v79 h=>
 dA False 2 1 (ptrTo b8) (slot cE 14) h fun v80 h=>
 aL False 1 v80 v79 h fun Kt h=>
 Xf [qE,(slot cE 14),(slot cE 14),yI,v75,r_,(sliceTo 1 1 TE),v79,v80] h
def Il (fh:Nat) (cE:List Value) (v20 v23:Value) (zn:List Value→Heap→Prop) (fN:List Value) (jR v66:Value) (aY:List Value) (v82 Cg LK v85:Value) (h:Heap):Prop :=
 ax False 1 (sliceTo 2 2 fh) (slot cE 14) h fun St h=>
 load1 False St h fun v87 h=>
 ax False 7 v87 (.int .i64 0) h fun Ku h=>
 aF False 7 Ku h fun FJ h=>
 az False [(.int .i64 0),(.int .i64 0),(.int .i64 0),(.int .i64 0),(.int .i64 0),(.int .i64 0),(.int .i64 0)] 39 false fun o90 => an False o90 h fun Po h=>
 aL False 7 (ptrTo Po) FJ h fun Yu h=>
 ax False 1 (sliceTo 2 2 fh) (slot cE 14) h fun v93 h=>
 load1 False v93 h fun Su h=>
 sliceB False 39 7 Su (some (.int .i64 1)) none none h fun NN h=>
 ax False 1 (sliceTo 2 2 fh) (slot cE 14) h fun TF h=>
 aL False 1 TF NN h fun Sv h=>
 au False prog .add 3 true false (slot cE 14) (.int .i64 1) h fun Xg h=>
 fieldAddrB False 1 (ptrTo Po) h fun LL h=>
 aL False 1 LL Xg h fun LM h=>
 fieldAddrB False 0 (ptrTo Po) h fun FK h=>
 load1 False FK h fun FL h=>
 au False prog .neq 3 true false FL (.int .i64 3) h fun qF h=>
 ah (aj qF true) (fun Yv=>
 Yv v20 h) h fun v105 h=>
 ah (aj qF true) (fun Yw=>
 fieldAddrB False 2 (ptrTo Po) h Yw) h fun v107 h=>
 ah (aj qF true) (fun Yx=>
 aF False 2 v107 h Yx) h fun v109 h=>
 ah (aj qF true) (fun Yy=>
 CallW prog 15 [v105,v109] h Yy) h fun Im h=>
 ah (aj qF true) (fun Yz=>
 Yz (slot cE 14) h) h fun Pp h=>
 ah (aj qF true) (fun YA=>
 au False prog .eql 3 false false Im Pp h YA) h fun tN h=>
 a_ False qF tN (.bool false) h fun FM h=>
 ay FM (
 aF False 7 (ptrTo Po) h fun v117 h=>
 CallW prog 16 [v23,(slot cE 14),v117] h fun LN h=>
 zn [(slot fN 0),(slot fN 1),(slot fN 2),(slot fN 3),(slot fN 4),(slot fN 5),(slot fN 6),(slot fN 7),(slot fN 8),(slot fN 9),(slot fN 10),(slot cE 0),(slot cE 1),(slot cE 2),(slot cE 3),(slot cE 4),(slot cE 5),(slot cE 6),(slot cE 7),(slot cE 8),(slot cE 9),(slot cE 10),(slot cE 11),(slot cE 12),(slot cE 13),(slot cE 14),v23,(slot cE 14),jR,v66,(slot aY 32),(slot aY 33),(slot aY 34),(slot aY 35),(slot aY 36),(slot aY 37),(slot aY 38),(slot aY 39),(slot aY 40),(slot aY 41),(slot aY 42),(slot aY 43),(slot aY 44),(slot aY 45),(slot aY 46),(slot aY 47),(slot aY 48),(slot aY 49),(slot aY 50),(slot aY 51),(slot aY 52),(slot aY 53),(sliceTo 2 2 fh),(slot cE 14),v82,Cg,LK,v85,(sliceTo 2 2 fh),(slot cE 14),St,v87,Ku,FJ,(ptrTo Po),(sliceTo 2 2 fh),(slot cE 14),(sliceTo 2 2 fh),(slot cE 14),v93,Su,NN,TF,(slot cE 14),Xg,LL,FK,FL,qF,qF,v105,v107,v109,Im,Pp,tN,FM,v23,(slot cE 14),v117,LN] h) (
 zn [(slot fN 0),(slot fN 1),(slot fN 2),(slot fN 3),(slot fN 4),(slot fN 5),(slot fN 6),(slot fN 7),(slot fN 8),(slot fN 9),(slot fN 10),(slot cE 0),(slot cE 1),(slot cE 2),(slot cE 3),(slot cE 4),(slot cE 5),(slot cE 6),(slot cE 7),(slot cE 8),(slot cE 9),(slot cE 10),(slot cE 11),(slot cE 12),(slot cE 13),(slot cE 14),v23,(slot cE 14),jR,v66,(slot aY 32),(slot aY 33),(slot aY 34),(slot aY 35),(slot aY 36),(slot aY 37),(slot aY 38),(slot aY 39),(slot aY 40),(slot aY 41),(slot aY 42),(slot aY 43),(slot aY 44),(slot aY 45),(slot aY 46),(slot aY 47),(slot aY 48),(slot aY 49),(slot aY 50),(slot aY 51),(slot aY 52),(slot aY 53),(sliceTo 2 2 fh),(slot cE 14),v82,Cg,LK,v85,(sliceTo 2 2 fh),(slot cE 14),St,v87,Ku,FJ,(ptrTo Po),(sliceTo 2 2 fh),(slot cE 14),(sliceTo 2 2 fh),(slot cE 14),v93,Su,NN,TF,(slot cE 14),Xg,LL,FK,FL,qF,qF,v105,v107,v109,Im,Pp,tN,FM,(slot aY 89),(slot aY 90),(slot aY 91),(slot aY 92)] h)
def CX (v23:Value) (cE:List Value) (b8:Nat) (aY:List Value) (zn:List Value→Heap→Prop) (fN:List Value) (jR v66:Value) (h:Heap) (κ:KQ):Prop :=
 CallW prog 14 [v23,(slot cE 14)] h fun v67 h=>
 av False 0 v67 h fun qE h=>
 av False 1 v67 h fun r_ h=>
 av False 2 v67 h fun v70 h=>
 au False prog .neq 26 true false v70 (.int .i64 0) h fun rm h=>
 ay rm (
 κ (.bool false) h) (
 dH (fun Xf=>
 ay qE (
 Ik b8 cE r_ Xf qE h) (
 Xf [qE,(slot aY 46),(slot aY 47),(slot aY 48),(slot aY 49),(slot aY 50),(slot aY 51),(slot aY 52),(slot aY 53)] h)) fun LO h=>
 zn [(slot fN 0),(slot fN 1),(slot fN 2),(slot fN 3),(slot fN 4),(slot fN 5),(slot fN 6),(slot fN 7),(slot fN 8),(slot fN 9),(slot fN 10),(slot cE 0),(slot cE 1),(slot cE 2),(slot cE 3),(slot cE 4),(slot cE 5),(slot cE 6),(slot cE 7),(slot cE 8),(slot cE 9),(slot cE 10),(slot cE 11),(slot cE 12),(slot cE 13),(slot cE 14),v23,(slot cE 14),jR,v66,v23,(slot cE 14),v67,v67,qE,r_,v70,qE,r_,v70,v70,rm,(slot aY 44),(slot LO 0),(slot LO 1),(slot LO 2),(slot LO 3),(slot LO 4),(slot LO 5),(slot LO 6),(slot LO 7),(slot LO 8),(slot aY 54),(slot aY 55),(slot aY 56),(slot aY 57),(slot aY 58),(slot aY 59),(slot aY 60),(slot aY 61),(slot aY 62),(slot aY 63),(slot aY 64),(slot aY 65),(slot aY 66),(slot aY 67),(slot aY 68),(slot aY 69),(slot aY 70),(slot aY 71),(slot aY 72),(slot aY 73),(slot aY 74),(slot aY 75),(slot aY 76),(slot aY 77),(slot aY 78),(slot aY 79),(slot aY 80),(slot aY 81),(slot aY 82),(slot aY 83),(slot aY 84),(slot aY 85),(slot aY 86),(slot aY 87),(slot aY 88),(slot aY 89),(slot aY 90),(slot aY 91),(slot aY 92)] h)
def CY (fh:Nat) (cE:List Value) (Eo:List Value→Heap→Prop) (aY:List Value) (v35:Value) (fN:List Value) (v23 jR v66 v20:Value) (zn:List Value→Heap→Prop) (h:Heap):Prop :=
 ax False 1 (sliceTo 2 2 fh) (slot cE 14) h fun v82 h=>
 load1 False v82 h fun Cg h=>
 bA False Cg h fun LK h=>
 au False prog .eql 3 true false LK (.int .i64 0) h fun v85 h=>
 ay v85 (
 Eo [(slot aY 95),v35,(slot fN 0),(slot fN 1),(slot fN 2),(slot fN 3),(slot fN 4),(slot fN 5),(slot fN 6),(slot fN 7),(slot fN 8),(slot fN 9),(slot fN 10),(slot cE 0),(slot cE 1),(slot cE 2),(slot cE 3),(slot cE 4),(slot cE 5),(slot cE 6),(slot cE 7),(slot cE 8),(slot cE 9),(slot cE 10),(slot cE 11),(slot cE 12),(slot cE 13),(slot cE 14),v23,(slot cE 14),jR,v66,(slot aY 32),(slot aY 33),(slot aY 34),(slot aY 35),(slot aY 36),(slot aY 37),(slot aY 38),(slot aY 39),(slot aY 40),(slot aY 41),(slot aY 42),(slot aY 43),(slot aY 44),(slot aY 45),(slot aY 46),(slot aY 47),(slot aY 48),(slot aY 49),(slot aY 50),(slot aY 51),(slot aY 52),(slot aY 53),(sliceTo 2 2 fh),(slot cE 14),v82,Cg,LK,v85,(slot aY 60),(slot aY 61),(slot aY 62),(slot aY 63),(slot aY 64),(slot aY 65),(slot aY 66),(slot aY 67),(slot aY 68),(slot aY 69),(slot aY 70),(slot aY 71),(slot aY 72),(slot aY 73),(slot aY 74),(slot aY 75),(slot aY 76),(slot aY 77),(slot aY 78),(slot aY 79),(slot aY 80),(slot aY 81),(slot aY 82),(slot aY 83),(slot aY 84),(slot aY 85),(slot aY 86),(slot aY 87),(slot aY 88),(slot aY 89),(slot aY 90),(slot aY 91),(slot aY 92),(slot aY 93),(slot aY 94),(slot aY 95)] h) (
 Il fh cE v20 v23 zn fN jR v66 aY v82 Cg LK v85 h)
def Io (v23:Value) (fN:List Value) (fh:Nat) (CZ:List Value→Heap→Prop) (aY:List Value) (h:Heap):Prop :=
 CallW prog 13 [v23,(slot fN 11)] h fun v49 h=>
 au False prog .eql 3 true false v49 (.int .i64 0) h fun v50 h=>
 ah (aj v50 true) (fun YB=>
 YB (sliceTo 2 2 fh) h) h fun rq h=>
 ah (aj v50 true) (fun K53=>
 K53 (slot fN 11) h) h fun v54 h=>
 ah (aj v50 true) (fun K55=>
 ax False 1 rq v54 h K55) h fun tO h=>
 ah (aj v50 true) (fun K57=>
 load1 False tO h K57) h fun v58 h=>
 ah (aj v50 true) (fun K59=>
 bA False v58 h K59) h fun v60 h=>
 ah (aj v50 true) (fun K61=>
 au False prog .eql 3 true false v60 (.int .i64 0) h K61) h fun AD h=>
 a_ False v50 AD (.bool false) h fun vB h=>
 ay vB (
 au False prog .sub 3 true false (.int .i64 1) (slot fN 11) h fun v64 h=>
 CZ [v23,(slot fN 11),v49,v50,v50,rq,v54,tO,v58,v60,AD,vB,(slot fN 11),v64,v64] h) (
 CZ [v23,(slot fN 11),v49,v50,v50,rq,v54,tO,v58,v60,AD,vB,(slot aY 25),(slot aY 26),(slot fN 11)] h)
def C0 (a2:Value) (aY:List Value) (Xh:List Value→Heap→Prop) (h:Heap):Prop :=
 bA False a2 h fun v40 h=>
 au False prog .gtr 3 true false v40 (.int .i64 0) h fun v41 h=>
 ay v41 (
 bA False a2 h fun vC h=>
 au False prog .rem 3 false false (slot aY 95) vC h fun pH h=>
 ax False 1 a2 pH h fun v44 h=>
 load1 False v44 h fun v45 h=>
 CallW prog 12 [v45,(.int .i64 2)] h fun v46 h=>
 Xh [a2,v40,v41,a2,(slot aY 95),a2,vC,pH,v44,v45,v46,v46] h) (
 Xh [a2,v40,v41,(slot aY 5),(slot aY 6),(slot aY 7),(slot aY 8),(slot aY 9),(slot aY 10),(slot aY 11),(slot aY 12),(.int .i64 0)] h)
def Ip (v23:Value) (fN:List Value) (fh:Nat) (aY:List Value) (b8:Nat) (zn:List Value→Heap→Prop) (Eo:List Value→Heap→Prop) (v35 v20:Value) (h:Heap) (κ:KQ):Prop :=
 dH (fun CZ=>
 Io v23 fN fh CZ aY h) fun cE h=>
 CallW prog 13 [v23,(slot cE 14)] h fun jR h=>
 au False prog .neq 3 true false jR (.int .i64 0) h fun v66 h=>
 ay v66 (
 CX v23 cE b8 aY zn fN jR v66 h κ) (
 CY fh cE Eo aY v35 fN v23 jR v66 v20 zn h)
def C1 (aY:List Value) (a2 v23:Value) (fh b8:Nat) (Eo:List Value→Heap→Prop) (v20:Value) (TG:List Value→Heap→Prop) (h:Heap) (κ:KQ):Prop :=
 au False prog .lss 3 true false (slot aY 95) (.int .i64 400) h fun v35 h=>
 ay v35 (
 dH (fun zn=>
 dH (fun Xh=>
 C0 a2 aY Xh h) fun fN h=>
 Ip v23 fN fh aY b8 zn Eo v35 v20 h κ) fun dJ h=>
 au False prog .add 3 true false (slot aY 95) (.int .i64 1) h fun Iq h=>
 TG [(slot aY 95),v35,(slot dJ 0),(slot dJ 1),(slot dJ 2),(slot dJ 3),(slot dJ 4),(slot dJ 5),(slot dJ 6),(slot dJ 7),(slot dJ 8),(slot dJ 9),(slot dJ 10),(slot dJ 11),(slot dJ 12),(slot dJ 13),(slot dJ 14),(slot dJ 15),(slot dJ 16),(slot dJ 17),(slot dJ 18),(slot dJ 19),(slot dJ 20),(slot dJ 21),(slot dJ 22),(slot dJ 23),(slot dJ 24),(slot dJ 25),(slot dJ 26),(slot dJ 27),(slot dJ 28),(slot dJ 29),(slot dJ 30),(slot dJ 31),(slot dJ 32),(slot dJ 33),(slot dJ 34),(slot dJ 35),(slot dJ 36),(slot dJ 37),(slot dJ 38),(slot dJ 39),(slot dJ 40),(slot dJ 41),(slot dJ 42),(slot dJ 43),(slot dJ 44),(slot dJ 45),(slot dJ 46),(slot dJ 47),(slot dJ 48),(slot dJ 49),(slot dJ 50),(slot dJ 51),(slot dJ 52),(slot dJ 53),(slot dJ 54),(slot dJ 55),(slot dJ 56),(slot dJ 57),(slot dJ 58),(slot dJ 59),(slot dJ 60),(slot dJ 61),(slot dJ 62),(slot dJ 63),(slot dJ 64),(slot dJ 65),(slot dJ 66),(slot dJ 67),(slot dJ 68),(slot dJ 69),(slot dJ 70),(slot dJ 71),(slot dJ 72),(slot dJ 73),(slot dJ 74),(slot dJ 75),(slot dJ 76),(slot dJ 77),(slot dJ 78),(slot dJ 79),(slot dJ 80),(slot dJ 81),(slot dJ 82),(slot dJ 83),(slot dJ 84),(slot dJ 85),(slot dJ 86),(slot dJ 87),(slot dJ 88),(slot dJ 89),(slot dJ 90),(slot aY 95),Iq,Iq] h) (
 Eo [(slot aY 95),v35,(slot aY 2),(slot aY 3),(slot aY 4),(slot aY 5),(slot aY 6),(slot aY 7),(slot aY 8),(slot aY 9),(slot aY 10),(slot aY 11),(slot aY 12),(slot aY 13),(slot aY 14),(slot aY 15),(slot aY 16),(slot aY 17),(slot aY 18),(slot aY 19),(slot aY 20),(slot aY 21),(slot aY 22),(slot aY 23),(slot aY 24),(slot aY 25),(slot aY 26),(slot aY 27),(slot aY 28),(slot aY 29),(slot aY 30),(slot aY 31),(slot aY 32),(slot aY 33),(slot aY 34),(slot aY 35),(slot aY 36),(slot aY 37),(slot aY 38),(slot aY 39),(slot aY 40),(slot aY 41),(slot aY 42),(slot aY 43),(slot aY 44),(slot aY 45),(slot aY 46),(slot aY 47),(slot aY 48),(slot aY 49),(slot aY 50),(slot aY 51),(slot aY 52),(slot aY 53),(slot aY 54),(slot aY 55),(slot aY 56),(slot aY 57),(slot aY 58),(slot aY 59),(slot aY 60),(slot aY 61),(slot aY 62),(slot aY 63),(slot aY 64),(slot aY 65),(slot aY 66),(slot aY 67),(slot aY 68),(slot aY 69),(slot aY 70),(slot aY 71),(slot aY 72),(slot aY 73),(slot aY 74),(slot aY 75),(slot aY 76),(slot aY 77),(slot aY 78),(slot aY 79),(slot aY 80),(slot aY 81),(slot aY 82),(slot aY 83),(slot aY 84),(slot aY 85),(slot aY 86),(slot aY 87),(slot aY 88),(slot aY 89),(slot aY 90),(slot aY 91),(slot aY 92),(slot aY 93),(slot aY 94),(slot aY 95)] h)
def Ir (nH:Value) (b8:Nat) (bH:List Value) (bq:List Value) (FN:List Value→Heap→Prop) (kN AE v145:Value) (yJ:Nat) (C2 C3 v152 C4 v154 C5 FO v160 v162 v164 Is v167 Iu v171 v173 v175 Iv:Value) (h:Heap) (κ:KQ):Prop :=
 CallW prog 17 [nH,(.int .i64 0),(.int .i64 3)] h fun Iw h=>
 av False 0 Iw h fun TH h=>
 av False 1 Iw h fun Pq h=>
 av False 2 Iw h fun TI h=>
 dA False 2 1 (ptrTo b8) (slot bH 80) h fun TJ h=>
 load1 False TJ h fun v182 h=>
 bA False v182 h fun v183 h=>
 au False prog .geq 3 false false (slot bq 57) v183 h fun tP h=>
 ah (aj tP false) (fun YC=>
 YC (slot bH 80) h) h fun TK h=>
 ah (aj tP false) (fun YD=>
 dA False 2 1 (ptrTo b8) TK h YD) h fun TL h=>
 ah (aj tP false) (fun YE=>
 load1 False TL h YE) h fun TM h=>
 ah (aj tP false) (fun YF=>
 YF (slot bq 57) h) h fun TN h=>
 ah (aj tP false) (fun YG=>
 ax False 1 TM TN h YG) h fun v194 h=>
 ah (aj tP false) (fun YH=>
 load1 False v194 h YH) h fun v196 h=>
 ah (aj tP false) (fun YI=>
 YI Pq h) h fun v198 h=>
 ah (aj tP false) (fun YJ=>
 au False prog .neq 3 false false v196 v198 h YJ) h fun TO h=>
 a_ False tP (.bool true) TO h fun v201 h=>
 ay v201 (
 κ (.bool false) h) (
 au False prog .add 3 true false (slot bq 57) (.int .i64 1) h fun TP h=>
 FN [kN,(slot bq 60),AE,v145,(ptrTo yJ),(slot bH 80),C2,C3,v152,C4,v154,v154,C5,FO,v160,v162,v164,Is,v167,v167,Iu,v171,v173,v175,Iv,nH,Iw,Iw,TH,Pq,TI,TH,Pq,TI,(slot bq 57),(slot bH 80),TJ,v182,v183,tP,tP,TK,TL,TM,TN,v194,v196,v198,TO,v201,(slot bq 54),(slot bq 57),TP,TP] h)
def Ix (kN:Value) (bq:List Value) (bH:List Value) (v20 nH:Value) (FN:List Value→Heap→Prop) (b8:Nat) (h:Heap) (κ:KQ):Prop :=
 ax False 7 kN (slot bq 60) h fun AE h=>
 aF False 7 AE h fun v145 h=>
 az False [(.int .i64 0),(.int .i64 0),(.int .i64 0),(.int .i64 0),(.int .i64 0),(.int .i64 0),(.int .i64 0)] 39 false fun YK => an False YK h fun yJ h=>
 aL False 7 (ptrTo yJ) v145 h fun v148 h=>
 au False prog .add 3 true false (slot bH 80) (.int .i64 1) h fun C2 h=>
 fieldAddrB False 1 (ptrTo yJ) h fun C3 h=>
 aL False 1 C3 C2 h fun YL h=>
 fieldAddrB False 0 (ptrTo yJ) h fun v152 h=>
 load1 False v152 h fun C4 h=>
 au False prog .eql 3 true false C4 (.int .i64 3) h fun v154 h=>
 ah (aj v154 false) (fun YM=>
 YM v20 h) h fun C5 h=>
 ah (aj v154 false) (fun YN=>
 fieldAddrB False 2 (ptrTo yJ) h YN) h fun FO h=>
 ah (aj v154 false) (fun YO=>
 aF False 2 FO h YO) h fun v160 h=>
 ah (aj v154 false) (fun YP=>
 CallW prog 15 [C5,v160] h YP) h fun v162 h=>
 ah (aj v154 false) (fun YQ=>
 YQ (slot bH 80) h) h fun v164 h=>
 ah (aj v154 false) (fun YR=>
 au False prog .neq 3 false false v162 v164 h YR) h fun Is h=>
 a_ False v154 (.bool true) Is h fun v167 h=>
 ah (aj v167 false) (fun YS=>
 YS nH h) h fun Iu h=>
 ah (aj v167 false) (fun YT=>
 aF False 7 (ptrTo yJ) h YT) h fun v171 h=>
 ah (aj v167 false) (fun YU=>
 CallW prog 16 [Iu,(.int .i64 0),v171] h YU) h fun v173 h=>
 ah (aj v167 false) (fun YV=>
 au False prog .neq 26 true false v173 (.int .i64 0) h YV) h fun v175 h=>
 a_ False v167 (.bool true) v175 h fun Iv h=>
 ay Iv (
 FN [kN,(slot bq 60),AE,v145,(ptrTo yJ),(slot bH 80),C2,C3,v152,C4,v154,v154,C5,FO,v160,v162,v164,Is,v167,v167,Iu,v171,v173,v175,Iv,(slot bq 29),(slot bq 30),(slot bq 31),(slot bq 32),(slot bq 33),(slot bq 34),(slot bq 35),(slot bq 36),(slot bq 37),(slot bq 38),(slot bq 39),(slot bq 40),(slot bq 41),(slot bq 42),(slot bq 43),(slot bq 44),(slot bq 45),(slot bq 46),(slot bq 47),(slot bq 48),(slot bq 49),(slot bq 50),(slot bq 51),(slot bq 52),(slot bq 53),(slot bq 54),(slot bq 55),(slot bq 56),(slot bq 57)] h) (
 Ir nH b8 bH bq FN kN AE v145 yJ C2 C3 v152 C4 v154 C5 FO v160 v162 v164 Is v167 Iu v171 v173 v175 Iv h κ)
def Ep (b8:Nat) (bH:List Value) (bq:List Value) (pI:List Value→Heap→Prop) (v131 nH a0 a1:Value) (AF:Nat) (tQ kN AG v141:Value) (h:Heap) (κ:KQ):Prop :=
 dA False 2 1 (ptrTo b8) (slot bH 80) h fun TQ h=>
 load1 False TQ h fun TT h=>
 bA False TT h fun v206 h=>
 au False prog .neq 3 false false (slot bq 57) v206 h fun TU h=>
 ay TU (
 κ (.bool false) h) (
 au False prog .add 3 true false (slot bH 80) (.int .i64 1) h fun v208 h=>
 pI [(slot bH 80),v131,nH,nH,a0,a1,(sliceTo 2 2 AF),(slot bH 80),tQ,kN,kN,(slot bq 60),kN,AG,v141,(slot bq 4),(slot bq 5),(slot bq 6),(slot bq 7),(slot bq 8),(slot bq 9),(slot bq 10),(slot bq 11),(slot bq 12),(slot bq 13),(slot bq 14),(slot bq 15),(slot bq 16),(slot bq 17),(slot bq 18),(slot bq 19),(slot bq 20),(slot bq 21),(slot bq 22),(slot bq 23),(slot bq 24),(slot bq 25),(slot bq 26),(slot bq 27),(slot bq 28),(slot bq 29),(slot bq 30),(slot bq 31),(slot bq 32),(slot bq 33),(slot bq 34),(slot bq 35),(slot bq 36),(slot bq 37),(slot bq 38),(slot bq 39),(slot bq 40),(slot bq 41),(slot bq 42),(slot bq 43),(slot bq 44),(slot bq 45),(slot bq 46),(slot bq 47),(slot bq 48),(slot bq 49),(slot bq 50),(slot bq 51),(slot bq 52),(slot bq 53),(slot bq 55),(slot bq 56),(slot bq 57),(slot bq 58),(slot bq 59),(slot bq 60),(slot bq 57),(slot bH 80),TQ,TT,v206,TU,(slot bq 54),(slot bH 80),v208,v208] h)
def sg (kN:Value) (bq:List Value) (bH:List Value) (v20 nH:Value) (b8:Nat) (Iy:List Value→Heap→Prop) (pI:List Value→Heap→Prop) (v131 a0 a1:Value) (AF:Nat) (tQ:Value) (h:Heap) (κ:KQ):Prop :=
 bA False kN h fun AG h=>
 au False prog .lss 3 false false (slot bq 60) AG h fun v141 h=>
 ay v141 (
 dH (fun FN=>
 Ix kN bq bH v20 nH FN b8 h κ) fun cU h=>
 au False prog .add 3 true false (slot bq 60) (.int .i64 1) h fun v203 h=>
 Iy [(slot bq 60),kN,AG,v141,(slot cU 0),(slot cU 1),(slot cU 2),(slot cU 3),(slot cU 4),(slot cU 5),(slot cU 6),(slot cU 7),(slot cU 8),(slot cU 9),(slot cU 10),(slot cU 11),(slot cU 12),(slot cU 13),(slot cU 14),(slot cU 15),(slot cU 16),(slot cU 17),(slot cU 18),(slot cU 19),(slot cU 20),(slot cU 21),(slot cU 22),(slot cU 23),(slot cU 24),(slot cU 25),(slot cU 26),(slot cU 27),(slot cU 28),(slot cU 29),(slot cU 30),(slot cU 31),(slot cU 32),(slot cU 33),(slot cU 34),(slot cU 35),(slot cU 36),(slot cU 37),(slot cU 38),(slot cU 39),(slot cU 40),(slot cU 41),(slot cU 42),(slot cU 43),(slot cU 44),(slot cU 45),(slot cU 46),(slot cU 47),(slot cU 48),(slot cU 49),(slot cU 50),(slot cU 51),(slot cU 52),(slot cU 53),(slot bq 60),v203,v203] h) (
 Ep b8 bH bq pI v131 nH a0 a1 AF tQ kN AG v141 h κ)
def yK (bH:List Value) (a0 a1 v20:Value) (b8:Nat) (pI:List Value→Heap→Prop) (h:Heap) (κ:KQ):Prop :=
 au False prog .lss 3 true false (slot bH 80) (.int .i64 2) h fun v131 h=>
 ay v131 (
 CallW prog 10 [(.int .i64 1)] h fun nH h=>
 bD False [(0,1),(1,1)] [a0,a1] (aO [(.slice none 0 0)] 2) fun TV => az False TV 22 false fun YW => an False YW h fun AF h=>
 ax False 1 (sliceTo 2 2 AF) (slot bH 80) h fun tQ h=>
 load1 False tQ h fun kN h=>
 dP [(slot bH 11),(slot bH 12),(slot bH 13),(slot bH 14),(slot bH 15),(slot bH 16),(slot bH 17),(slot bH 18),(slot bH 19),(slot bH 20),(slot bH 21),(slot bH 22),(slot bH 23),(slot bH 24),(slot bH 25),(slot bH 26),(slot bH 27),(slot bH 28),(slot bH 29),(slot bH 30),(slot bH 31),(slot bH 32),(slot bH 33),(slot bH 34),(slot bH 35),(slot bH 36),(slot bH 37),(slot bH 38),(slot bH 39),(slot bH 40),(slot bH 41),(slot bH 42),(slot bH 43),(slot bH 44),(slot bH 45),(slot bH 46),(slot bH 47),(slot bH 48),(slot bH 49),(slot bH 50),(slot bH 51),(slot bH 52),(slot bH 53),(slot bH 54),(slot bH 55),(slot bH 56),(slot bH 57),(slot bH 58),(slot bH 59),(slot bH 60),(slot bH 61),(slot bH 62),(slot bH 63),(slot bH 64),(slot bH 77),(slot bH 65),(slot bH 66),(.int .i64 0),(slot bH 68),(slot bH 69),(.int .i64 0)] h fun bq h Iy=>
 sg kN bq bH v20 nH b8 Iy pI v131 a0 a1 AF tQ h κ) (
 κ (.bool true) h)
def yL (v23:Value) (TW:List Value) (a0 a1 v20:Value) (b8:Nat) (h:Heap) (κ:KQ):Prop :=
 CallW prog 13 [v23,(.int .i64 0)] h fun LP h=>
 au False prog .neq 3 true false LP (.int .i64 0) h fun C6 h=>
 ah (aj C6 false) (fun YX=>
 YX v23 h) h fun LQ h=>
 ah (aj C6 false) (fun YY=>
 CallW prog 13 [LQ,(.int .i64 1)] h YY) h fun LR h=>
 ah (aj C6 false) (fun YZ=>
 au False prog .neq 3 true false LR (.int .i64 0) h YZ) h fun v127 h=>
 a_ False C6 (.bool true) v127 h fun LS h=>
 ay LS (
 κ (.bool false) h) (
 dP [undef,undef,undef,undef,undef,undef,undef,undef,undef,undef,undef,undef,undef,undef,undef,undef,undef,undef,undef,undef,undef,undef,undef,undef,undef,undef,undef,undef,undef,undef,undef,undef,undef,undef,undef,undef,undef,undef,undef,undef,undef,undef,undef,undef,undef,undef,undef,undef,undef,undef,undef,undef,undef,undef,undef,undef,undef,undef,undef,undef,undef,undef,undef,undef,undef,undef,undef,undef,undef,undef,undef,undef,undef,undef,undef,undef,undef,(slot TW 44),undef,undef,(.int .i64 0)] h fun bH h pI=>
 yK bH a0 a1 v20 b8 pI h κ)
def Er (a0 a1 a2 v20:Value) (h:Heap) (κ:KQ):Prop :=
 CallW prog 10 [(.int .i64 2)] h fun v23 h=>
 CallW prog 11 [a0] h fun v24 h=>
 CallW prog 11 [a1] h fun v25 h=>
 bD False [(0,1),(1,1)] [v24,v25] (aO [(.slice none 0 0)] 2) fun Y0 => az False Y0 22 false fun o26 => an False o26 h fun fh h=>
 az False [(.slice none 0 0),(.slice none 0 0)] 41 false fun o29 => an False o29 h fun b8 h=>
 dH (fun Eo=>
 dP [undef,undef,undef,undef,undef,undef,undef,undef,undef,undef,undef,undef,undef,undef,undef,undef,undef,undef,undef,undef,undef,undef,undef,undef,undef,undef,undef,undef,undef,undef,undef,undef,undef,undef,undef,undef,undef,undef,undef,undef,undef,undef,undef,undef,(.bool false),undef,undef,undef,undef,undef,undef,undef,undef,undef,undef,undef,undef,undef,undef,undef,undef,undef,undef,undef,undef,undef,undef,undef,undef,undef,undef,undef,undef,undef,undef,undef,undef,undef,undef,undef,undef,undef,undef,undef,undef,undef,undef,undef,undef,undef,undef,undef,undef,undef,undef,(.int .i64 0)] h fun aY h TG=>
 C1 aY a2 v23 fh b8 Eo v20 TG h κ) fun TW h=>
 yL v23 TW a0 a1 v20 b8 h κ
def Es (a0 a1 a2:Value) (h:Heap) (κ:KQ):Prop :=
 CallW prog 9 [] h fun cW h=>
 CallW prog 8 [cW] h fun v19 h=>
 av False 0 v19 h fun v20 h=>
 av False 1 v19 h fun v21 h=>
 au False prog .neq 26 true false v21 (.int .i64 0) h fun v22 h=>
 ay v22 (
 κ (.bool false) h) (
 Er a0 a1 a2 v20 h κ)
def pJ (a0 a1 a2:Value) (h:Heap) (κ:KQ):Prop :=
 bA False a0 h fun v2 h=>
 au False prog .gtr 3 true false v2 (.int .i64 6) h fun v3 h=>
 ah (aj v3 false) (fun K4=>
 K4 a1 h) h fun v5 h=>
 ah (aj v3 false) (fun K6=>
 bA False v5 h K6) h fun v7 h=>
 ah (aj v3 false) (fun K8=>
 au False prog .gtr 3 true false v7 (.int .i64 6) h K8) h fun v9 h=>
 a_ False v3 (.bool true) v9 h fun v10 h=>
 ah (aj v10 false) (fun K11=>
 K11 a2 h) h fun v12 h=>
 ah (aj v10 false) (fun Y1=>
 bA False v12 h Y1) h fun bV h=>
 ah (aj v10 false) (fun TX=>
 au False prog .gtr 3 true false bV (.int .i64 60) h TX) h fun v16 h=>
 a_ False v10 (.bool true) v16 h fun v17 h=>
 ay v17 (
 κ (.bool true) h) (
 Es a0 a1 a2 h κ)
theorem Y2 (a0 a1 a2:Value) (h:Heap) (κ:KQ):aK prog 3 [a0,a1,a2] h κ = (
 CallW prog 7 [] h fun v0 h=>
 kU False .not v0 h fun v1 h=>
 ay v1 (
 κ (.bool false) h) (
 pJ a0 a1 a2 h κ)) := by kernel_rfl
def Iz (v0:Value) (h:Heap) (κ:KQ):Prop :=
 CallW prog 17 [v0,(.int .i64 0),(.int .i64 3)] h fun bR h=>
 av False 0 bR h fun bV h=>
 av False 1 bR h fun bY h=>
 av False 2 bR h fun v16 h=>
 ah (aj bV true) (fun Pr=>
 Pr bY h) h fun cW h=>
 ah (aj bV true) (fun C7=>
 au False prog .eql 3 true false cW (.int .i64 1) h C7) h fun v20 h=>
 a_ False bV v20 (.bool false) h fun v21 h=>
 ah (aj v21 true) (fun K22=>
 K22 v16 h) h fun v23 h=>
 ah (aj v21 true) (fun LU=>
 au False prog .eql 26 true false v23 (.int .i64 0) h LU) h fun v25 h=>
 a_ False v21 v25 (.bool false) h fun v26 h=>
 κ v26 h
theorem Y3 (h:Heap) (κ:KQ):aK prog 7 [] h κ = (
 CallW prog 10 [(.int .i64 2)] h fun v0 h=>
 au False prog .eql 32 true false v0 (.pointer none) h fun v1 h=>
 ah (aj v1 false) (fun K2=>
 K2 v0 h) h fun v3 h=>
 ah (aj v1 false) (fun K4=>
 CallW prog 27 [(.int .i64 0)] h K4) h fun v5 h=>
 ah (aj v1 false) (fun K6=>
 CallW prog 28 [(.int .i64 1),v5,(.int .i64 6)] h K6) h fun v7 h=>
 ah (aj v1 false) (fun K8=>
 CallW prog 16 [v3,(.int .i64 0),v7] h K8) h fun v9 h=>
 ah (aj v1 false) (fun nI=>
 au False prog .neq 26 true false v9 (.int .i64 0) h nI) h fun v11 h=>
 a_ False v1 (.bool true) v11 h fun v12 h=>
 ay v12 (
 κ (.bool false) h) (
 Iz v0 h κ)) := by kernel_rfl
def IA (b1:Nat) (qG:Value) (Pt:Nat) (Sw:List Value) (Y4:List Value→Heap→Prop) (jR v66 v67:Value) (h:Heap):Prop :=
 fieldAddrB False 1 (ptrTo b1) h fun qE h=>
 load1 False qE h fun r_ h=>
 CallW prog 38 [r_,qG] h fun v70 h=>
 av False 0 v70 h fun rm h=>
 av False 1 v70 h fun v72 h=>
 aX False (ptrTo Pt) h fun GF h=>
 fieldAddrB False 4 GF h fun yI h=>
 load1 False yI h fun v75 h=>
 bD False [(0,1)] [rm] (aO [(.pointer none)] 1) fun Pn => az False Pn 91 false fun Yt => an False Yt h fun TE h=>
 bE False 91 1 [(.pointer none)] false v75 (sliceTo 1 1 TE) h fun v79 h=>
 aX False (ptrTo Pt) h fun v80 h=>
 fieldAddrB False 4 v80 h fun Kt h=>
 aL False 1 Kt v79 h fun v82 h=>
 au False prog .add 3 true false (slot Sw 25) (.int .i64 1) h fun Cg h=>
 Y4 [(slot Sw 25),jR,v66,v67,qE,r_,qG,v70,v70,rm,v72,rm,v72,(ptrTo Pt),(ptrTo Pt),GF,yI,v75,rm,(sliceTo 1 1 TE),v79,v80,Kt,(slot Sw 25),Cg,Cg] h
def IB (b1:Nat) (h:Heap) (κ:KQ):Prop :=
 fieldAddrB False 2 (ptrTo b1) h fun v54 h=>
 load1 False v54 h fun v55 h=>
 CallW prog 37 [v55] h fun tO h=>
 av False 0 tO h fun qG h=>
 av False 1 tO h fun v58 h=>
 aF False 4 (ptrTo b1) h fun v59 h=>
 bD False [(0,4),(5,1)] [v59,qG] [(.int .i64 0),(.int .i64 0),(.int .i64 0),(.int .i64 0),(.slice none 0 0),(.pointer none)] fun Y5=>
 az False (Value.cells (Value.agg (Array.mk Y5))).toList 90 false fun o61 => an False o61 h fun Pt h=>
 dP [undef,undef,undef,undef,undef,undef,undef,undef,undef,undef,undef,undef,undef,undef,undef,undef,undef,undef,undef,undef,undef,undef,undef,undef,undef,(.int .i64 0)] h fun Sw h Y4=>
 fieldAddrB False 0 (ptrTo b1) h fun jR h=>
 load1 False jR h fun v66 h=>
 au False prog .lss 3 false false (slot Sw 25) v66 h fun v67 h=>
 ay v67 (
 IA b1 qG Pt Sw Y4 jR v66 v67 h) (
 κ (Value.tuple (Array.mk [(ptrTo Pt),(.int .i64 0)])) h)
theorem Y6 (a0:Value) (h:Heap) (κ:KQ):aK prog 8 [a0] h κ = (
 az False (Value.cells a0).toList 30 false fun o0 => an False o0 h fun b1 h=>
 fieldAddrB False 0 (ptrTo b1) h fun v2 h=>
 load1 False v2 h fun v3 h=>
 au False prog .lss 3 true false v3 (.int .i64 1) h fun v4 h=>
 ah (aj v4 false) (fun K5=>
 fieldAddrB False 0 (ptrTo b1) h K5) h fun v6 h=>
 ah (aj v4 false) (fun K7=>
 load1 False v6 h K7) h fun v8 h=>
 ah (aj v4 false) (fun K9=>
 au False prog .gtr 3 true false v8 (.int .i64 16) h K9) h fun v10 h=>
 a_ False v4 (.bool true) v10 h fun v11 h=>
 ah (aj v11 false) (fun lE=>
 fieldAddrB False 1 (ptrTo b1) h lE) h fun bR h=>
 ah (aj v11 false) (fun pK=>
 load1 False bR h pK) h fun bY h=>
 ah (aj v11 false) (fun tR=>
 au False prog .lss 3 true false bY (.int .i64 1) h tR) h fun v17 h=>
 a_ False v11 (.bool true) v17 h fun cW h=>
 ah (aj cW false) (fun C7=>
 fieldAddrB False 1 (ptrTo b1) h C7) h fun v20 h=>
 ah (aj cW false) (fun IC=>
 load1 False v20 h IC) h fun v22 h=>
 ah (aj cW false) (fun ID=>
 au False prog .gtr 3 true false v22 (.int .i64 64) h ID) h fun v24 h=>
 a_ False cW (.bool true) v24 h fun v25 h=>
 ah (aj v25 false) (fun Pu=>
 fieldAddrB False 2 (ptrTo b1) h Pu) h fun v27 h=>
 ah (aj v25 false) (fun TY=>
 load1 False v27 h TY) h fun oL h=>
 ah (aj v25 false) (fun TZ=>
 au False prog .lss 3 true false oL (.int .i64 1) h TZ) h fun v31 h=>
 a_ False v25 (.bool true) v31 h fun v32 h=>
 ah (aj v32 false) (fun Pv=>
 fieldAddrB False 2 (ptrTo b1) h Pv) h fun nv h=>
 ah (aj v32 false) (fun Y7=>
 load1 False nv h Y7) h fun pL h=>
 ah (aj v32 false) (fun Y8=>
 au False prog .gtr 3 true false pL (.int .i64 128) h Y8) h fun vD h=>
 a_ False v32 (.bool true) vD h fun v39 h=>
 ah (aj v39 false) (fun T0=>
 fieldAddrB False 3 (ptrTo b1) h T0) h fun v41 h=>
 ah (aj v39 false) (fun T1=>
 load1 False v41 h T1) h fun pH h=>
 ah (aj v39 false) (fun T2=>
 au False prog .lss 3 true false pH (.int .i64 0) h T2) h fun v45 h=>
 a_ False v39 (.bool true) v45 h fun v46 h=>
 ah (aj v46 false) (fun K47=>
 fieldAddrB False 3 (ptrTo b1) h K47) h fun Ch h=>
 ah (aj v46 false) (fun K49=>
 load1 False Ch h K49) h fun v50 h=>
 ah (aj v46 false) (fun YB=>
 au False prog .gtr 3 true false v50 (.int .i64 8) h YB) h fun rq h=>
 a_ False v46 (.bool true) rq h fun v53 h=>
 ay v53 (
 κ (Value.tuple (Array.mk [(.pointer none),(.int .i64 2)])) h) (
 IB b1 h κ)) := by kernel_rfl
theorem Y9 (h:Heap) (κ:KQ):aK prog 9 [] h κ = (
 az False [(.int .i64 0),(.int .i64 0),(.int .i64 0),(.int .i64 0)] 30 false fun o0 => an False o0 h fun b1 h=>
 bD False [(0,1),(1,1),(2,1),(3,1)] [(.int .i64 2),(.int .i64 8),(.int .i64 24),(.int .i64 2)] [(.int .i64 0),(.int .i64 0),(.int .i64 0),(.int .i64 0)] fun LV=>
 aL False 4 (ptrTo b1) (Value.agg (Array.mk LV)) h fun v3 h=>
 aF False 4 (ptrTo b1) h fun v4 _ => κ v4 h) := by kernel_rfl
theorem T3 (a0:Value) (h:Heap) (κ:KQ):aK prog 10 [a0] h κ = (
 CallW prog 9 [] h fun v0 h=>
 CallW prog 39 [v0,a0] h fun v1 h=>
 av False 0 v1 h fun v2 h=>
 av False 1 v1 h fun v3 h=>
 au False prog .neq 26 true false v3 (.int .i64 0) h fun v4 h=>
 ay v4 (
 κ (.pointer none) h) (
 κ v2 h)) := by kernel_rfl
theorem T4 (a0:Value) (h:Heap) (κ:KQ):aK prog 11 [a0] h κ = (
 bD False [] [] (aO [(.int .i64 0),(.int .i64 0),(.int .i64 0),(.int .i64 0),(.int .i64 0),(.int .i64 0),(.int .i64 0)] 0) fun LV => az False LV 39 false fun o0 => an False o0 h fun b1 h=>
 bE False 39 7 [(.int .i64 0),(.int .i64 0),(.int .i64 0),(.int .i64 0),(.int .i64 0),(.int .i64 0),(.int .i64 0)] false (sliceTo 0 0 b1) a0 h fun v3 h=>
 κ v3 h) := by kernel_rfl
def Et (a0 a1:Value) (h:Heap) (κ:KQ):Prop :=
 au False prog .rem 3 false false a0 a1 h fun v1 h=>
 dH (fun N2=>
 au False prog .lss 3 true false v1 (.int .i64 0) h fun v4 h=>
 ay v4 (
 au False prog .add 3 false false v1 a1 h fun v5 h=>
 N2 [v1,v4,v1,a1,v5,v5] h) (
 N2 [v1,v4,undef,undef,undef,v1] h)) fun l3 h=>
 κ (slot l3 5) h
theorem T5 (a0 a1:Value) (h:Heap) (κ:KQ):aK prog 12 [a0,a1] h κ = (
 au False prog .lss 3 true false a1 (.int .i64 1) h fun v0 h=>
 ay v0 (
 κ (.int .i64 0) h) (
 Et a0 a1 h κ)) := by kernel_rfl
theorem T6 (a0 a1:Value) (h:Heap) (κ:KQ):aK prog 13 [a0,a1] h κ = (
 CallW prog 40 [a0,a1] h fun v0 h=>
 au False prog .neq 96 true false v0 (.pointer none) h fun v1 h=>
 ay v1 (
 aX False v0 h fun v2 h=>
 fieldAddrB False 12 v2 h fun v3 h=>
 load1 False v3 h fun v4 h=>
 κ v4 h) (
 κ (.int .i64 0) h)) := by kernel_rfl
def si (a0 a1:Value) (h:Heap) (κ:KQ):Prop :=
 aX False a0 h fun v5 h=>
 fieldAddrB False 4 v5 h fun v6 h=>
 load1 False v6 h fun v7 h=>
 ax False 1 v7 a1 h fun v8 h=>
 load1 False v8 h fun v9 h=>
 aX False v9 h fun v10 h=>
 fieldAddrB False 11 v10 h fun v11 h=>
 load1 False v11 h fun v12 h=>
 iE prog v12 [] h fun bR h=>
 aX False v9 h fun bV h=>
 fieldAddrB False 17 bV h fun bY h=>
 load1 False bY h fun v16 h=>
 kU False .not v16 h fun v17 h=>
 ay v17 (
 κ (Value.tuple (Array.mk [(.bool false),(.int .i64 0),(.int .i64 0)])) h) (
 aI (some v9) h fun cW h=>
 aI (aX none cW h fun v _=>some v) h fun v19 h=>
 aI (fieldAddrB none 16 v19 h fun v _=>some v) h fun v20 h=>
 aI (load1 none v20 h fun v _=>some v) h fun v21 h=>
 dG ((gz (some v9) cW) && ((gz (aX none cW h fun v _=>some v) v19) && ((gz (fieldAddrB none 16 v19 h fun v _=>some v) v20) && ((gz (load1 none v20 h fun v _=>some v) v21) && true)))) (κ (Value.tuple (Array.mk [(.bool true),v21,(.int .i64 0)])) h))
def sj (a0 a1:Value) (h:Heap) (κ:KQ):Prop :=
 CallW prog 41 [a0,a1] h fun v1 h=>
 kU False .not v1 h fun v2 h=>
 ay v2 (
 κ (Value.tuple (Array.mk [(.bool false),(.int .i64 0),(.int .i64 2)])) h) (
 CallW prog 31 [a0,a1] h fun v3 h=>
 kU False .not v3 h fun v4 h=>
 ay v4 (
 κ (Value.tuple (Array.mk [(.bool false),(.int .i64 0),(.int .i64 7)])) h) (
 si a0 a1 h κ))
theorem IF (a0 a1:Value) (h:Heap) (κ:KQ):aK prog 14 [a0,a1] h κ = (
 au False prog .eql 32 true false a0 (.pointer none) h fun v0 h=>
 ay v0 (
 κ (Value.tuple (Array.mk [(.bool false),(.int .i64 0),(.int .i64 1)])) h) (
 sj a0 a1 h κ)) := by kernel_rfl
theorem T7 (a0 a1:Value) (h:Heap) (κ:KQ):aK prog 15 [a0,a1] h κ = (
 az False (Value.cells a1).toList 36 false fun o0 => an False o0 h fun b1 h=>
 aI (aF none 2 (ptrTo b1) h fun v _=>some v) h fun v2 h=>
 aI (some a0) h fun v3 h=>
 aI (aX none v3 h fun v _=>some v) h fun v4 h=>
 aI (fieldAddrB none 0 v4 h fun v _=>some v) h fun v5 h=>
 aI (fieldAddrB none 0 v5 h fun v _=>some v) h fun v6 h=>
 aI (load1 none v6 h fun v _=>some v) h fun v7 h=>
 CallW prog 42 [v2,v7] h fun v8 h=>
 κ v8 h) := by kernel_rfl
def Eu (b1:Nat) (a0 a1:Value) (h:Heap) (κ:KQ):Prop :=
 aI (aF none 7 (ptrTo b1) h fun v _=>some v) h fun cW h=>
 aI (some a0) h fun v19 h=>
 aI (some a1) h fun v20 h=>
 aI (some a0) h fun v21 h=>
 aI (aX none v21 h fun v _=>some v) h fun v22 h=>
 aI (fieldAddrB none 6 v22 h fun v _=>some v) h fun v23 h=>
 aI (load1 none v23 h fun v _=>some v) h fun v24 h=>
 aI (some a0) h fun v25 h=>
 aI (aX none v25 h fun v _=>some v) h fun v26 h=>
 aI (fieldAddrB none 0 v26 h fun v _=>some v) h fun v27 h=>
 aI (load1 none v27 h fun v _=>some v) h fun v28 h=>
 aI (fieldAddrB none 2 (ptrTo b1) h fun v _=>some v) h fun oL h=>
 aI (aF none 2 oL h fun v _=>some v) h fun v30 h=>
 CallW prog 44 [v28,v30] h fun v31 h=>
 dG ((gz (aF none 7 (ptrTo b1) h fun v _=>some v) cW) && ((gz (some a0) v19) && ((gz (some a1) v20) && ((gz (some a0) v21) && ((gz (aX none v21 h fun v _=>some v) v22) && ((gz (fieldAddrB none 6 v22 h fun v _=>some v) v23) && ((gz (load1 none v23 h fun v _=>some v) v24) && true))))))) (aI (bD none [(0,7),(7,1),(8,1),(9,1),(10,1)] [cW,v19,v20,v24,v31] [(.int .i64 0),(.int .i64 0),(.int .i64 0),(.int .i64 0),(.int .i64 0),(.int .i64 0),(.int .i64 0),(.pointer none),(.int .i64 0),(.int .i64 0),(.int .i64 0),Value.nilFunc,(.int .i64 0),(.bool false),(.int .i64 0),(.int .i64 0),(.int .i64 0),(.bool false),(.slice none 0 0)] fun cs => some (Value.agg (Array.mk cs))) h fun v32 h=>
 GD (az none (Value.cells v32).toList 99 false fun o => some (o,ptrTo)) h fun v33 h=>
 CallW prog 45 [v33,(.int .i64 1),(Value.func (.func 46) (Array.mk [v33]) (Array.mk []))] h fun nv h=>
 aX False a0 h fun v35 h=>
 fieldAddrB False 6 v35 h fun pL h=>
 load1 False pL h fun v37 h=>
 au False prog .add 3 true false v37 (.int .i64 1) h fun vD h=>
 aX False a0 h fun v39 h=>
 fieldAddrB False 6 v39 h fun v40 h=>
 aL False 1 v40 vD h fun v41 h=>
 aX False a0 h fun vC h=>
 fieldAddrB False 4 vC h fun pH h=>
 load1 False pH h fun v44 h=>
 ax False 1 v44 a1 h fun v45 h=>
 aL False 1 v45 v33 h fun v46 h=>
 κ (.int .i64 0) h)
def Ev (a0 a1:Value) (b1:Nat) (h:Heap) (κ:KQ):Prop :=
 aX False a0 h fun v12 h=>
 fieldAddrB False 4 v12 h fun bR h=>
 load1 False bR h fun bV h=>
 ax False 1 bV a1 h fun bY h=>
 load1 False bY h fun v16 h=>
 au False prog .neq 96 true false v16 (.pointer none) h fun v17 h=>
 ay v17 (
 κ (.int .i64 7) h) (
 Eu b1 a0 a1 h κ)
def Ew (a0 a1:Value) (b1:Nat) (h:Heap) (κ:KQ):Prop :=
 CallW prog 41 [a0,a1] h fun v3 h=>
 kU False .not v3 h fun v4 h=>
 ah (aj v4 false) (fun K5=>
 aF False 7 (ptrTo b1) h K5) h fun v6 h=>
 ah (aj v4 false) (fun K7=>
 CallW prog 43 [v6] h K7) h fun v8 h=>
 ah (aj v4 false) (fun K9=>
 kU False .not v8 h K9) h fun v10 h=>
 a_ False v4 (.bool true) v10 h fun v11 h=>
 ay v11 (
 κ (.int .i64 2) h) (
 Ev a0 a1 b1 h κ)
theorem T8 (a0 a1 a2:Value) (h:Heap) (κ:KQ):aK prog 16 [a0,a1,a2] h κ = (
 az False (Value.cells a2).toList 39 false fun o0 => an False o0 h fun b1 h=>
 au False prog .eql 32 true false a0 (.pointer none) h fun v2 h=>
 ay v2 (
 κ (.int .i64 1) h) (
 Ew a0 a1 b1 h κ)) := by kernel_rfl
def yM (l1:List Value) (a2 a0 a1:Value) (N0:List Value→Heap→Prop) (h:Heap) (κ:KQ):Prop :=
 au False prog .lss 3 false false (slot l1 15) a2 h fun v2 h=>
 ay v2 (
 CallW prog 14 [a0,a1] h fun v3 h=>
 av False 0 v3 h fun v4 h=>
 av False 1 v3 h fun v5 h=>
 av False 2 v3 h fun v6 h=>
 au False prog .add 3 true false (slot l1 15) (.int .i64 1) h fun v7 h=>
 N0 [(slot l1 15),a2,v2,a0,a1,v3,v3,v4,v5,v6,v4,v5,v6,(slot l1 15),v7,v7] h) (
 κ (Value.tuple (Array.mk [(slot l1 10),(slot l1 11),(slot l1 12)])) h)
theorem T9 (a0 a1 a2:Value) (h:Heap) (κ:KQ):aK prog 17 [a0,a1,a2] h κ = (
 dP [undef,undef,undef,undef,undef,undef,undef,undef,undef,undef,(.bool false),(.int .i64 0),(.int .i64 0),undef,undef,(.int .i64 0)] h fun l1 h N0=>
 yM l1 a2 a0 a1 N0 h κ) := by kernel_rfl
theorem T_ (a0:Value) (h:Heap) (κ:KQ):aK prog 25 [a0] h κ = (
 az False (Value.cells a0).toList 36 false fun o0 => an False o0 h fun b1 h=>
 aF False 2 (ptrTo b1) h fun v2 h=>
 CallW prog 57 [v2] h fun v3 h=>
 au False prog .lss 3 true false v3 (.int .i64 0) h fun v4 h=>
 ay v4 (
 κ (.int .i64 2) h) (
 κ (.int .i64 0) h)) := by kernel_rfl
theorem Ua (a0:Value) (h:Heap) (κ:KQ):aK prog 27 [a0] h κ = (
 az False [(.int .i64 0),(.int .i64 0)] 36 false fun o0 => an False o0 h fun b1 h=>
 bD False [(0,1),(1,1)] [a0,(.int .i64 (-1))] [(.int .i64 0),(.int .i64 0)] fun LV=>
 aL False 2 (ptrTo b1) (Value.agg (Array.mk LV)) h fun v3 h=>
 aF False 2 (ptrTo b1) h fun v4 _ => κ v4 h) := by kernel_rfl
theorem Ub (a0 a1 a2:Value) (h:Heap) (κ:KQ):aK prog 28 [a0,a1,a2] h κ = (
 az False (Value.cells a1).toList 36 false fun o0 => an False o0 h fun b1 h=>
 az False [(.int .i64 0),(.int .i64 0),(.int .i64 0),(.int .i64 0),(.int .i64 0),(.int .i64 0),(.int .i64 0)] 39 false fun o2 => an False o2 h fun b3 h=>
 aF False 2 (ptrTo b1) h fun v4 h=>
 bD False [(0,1),(1,1),(2,2),(4,1)] [(.int .i64 1),a0,v4,a2] [(.int .i64 0),(.int .i64 0),(.int .i64 0),(.int .i64 0),(.int .i64 0),(.int .i64 0),(.int .i64 0)] fun Sx=>
 aL False 7 (ptrTo b3) (Value.agg (Array.mk Sx)) h fun v6 h=>
 aF False 7 (ptrTo b3) h fun v7 _ => κ v7 h) := by kernel_rfl
def Ey (a0 v0:Value) (h:Heap) (κ:KQ):Prop :=
 aI (some a0) h fun bY h=>
 aI (aX none bY h fun v _=>some v) h fun v16 h=>
 aI (fieldAddrB none 1 v16 h fun v _=>some v) h fun v17 h=>
 aI (load1 none v17 h fun v _=>some v) h fun cW h=>
 aI (some v0) h fun v19 h=>
 aI (aX none v19 h fun v _=>some v) h fun v20 h=>
 aI (fieldAddrB none 10 v20 h fun v _=>some v) h fun v21 h=>
 aI (load1 none v21 h fun v _=>some v) h fun v22 h=>
 CallW prog 62 [cW,v22] h fun v23 h=>
 aI (some v23) h fun v24 h=>
 aI (av none 0 v24 h fun v _=>some v) h fun v25 h=>
 aI (av none 1 v24 h fun v _=>some v) h fun v26 h=>
 dG ((gz (av none 1 v24 h fun v _=>some v) v26) && true) (aX False v0 h fun v27 h=>
 fieldAddrB False 12 v27 h fun v28 h=>
 load1 False v28 h fun oL h=>
 au False prog .neq 3 true false oL (.int .i64 1) h fun v30 h=>
 ah (aj v30 false) (fun Pw=>
 Pw v26 h) h fun v32 h=>
 ah (aj v30 false) (fun Pv=>
 kU False .not v32 h Pv) h fun nv h=>
 a_ False v30 (.bool true) nv h fun v35 h=>
 κ v35 h)
theorem Uc (a0 a1:Value) (h:Heap) (κ:KQ):aK prog 31 [a0,a1] h κ = (
 CallW prog 40 [a0,a1] h fun v0 h=>
 au False prog .eql 96 true false v0 (.pointer none) h fun v1 h=>
 ah (aj v1 false) (fun K2=>
 K2 a0 h) h fun v3 h=>
 ah (aj v1 false) (fun K4=>
 aX False v3 h K4) h fun v5 h=>
 ah (aj v1 false) (fun K6=>
 fieldAddrB False 2 v5 h K6) h fun v7 h=>
 ah (aj v1 false) (fun K8=>
 load1 False v7 h K8) h fun v9 h=>
 ah (aj v1 false) (fun nI=>
 nI a1 h) h fun v11 h=>
 ah (aj v1 false) (fun lE=>
 CallW prog 61 [v9,v11] h lE) h fun bR h=>
 a_ False v1 (.bool true) bR h fun bV h=>
 ay bV (
 κ (.bool false) h) (
 Ey a0 v0 h κ)) := by kernel_rfl
theorem Ud (a0:Value) (h:Heap) (κ:KQ):aK prog 37 [a0] h κ = (
 au False prog .lss 3 true false a0 (.int .i64 0) h fun v0 h=>
 ah (aj v0 false) (fun K1=>
 K1 a0 h) h fun v2 h=>
 ah (aj v0 false) (fun K3=>
 au False prog .gtr 3 true false v2 (.int .i64 128) h K3) h fun v4 h=>
 a_ False v0 (.bool true) v4 h fun v5 h=>
 ay v5 (
 κ (Value.tuple (Array.mk [(.pointer none),(.int .i64 2)])) h) (
 Ij False a0 a0 [(.bool false)] 4 h fun v8 h=>
 bD False [(0,1)] [v8] [(.slice none 0 0)] fun Px=>
 az False (Value.cells (Value.agg (Array.mk Px))).toList 132 false fun Py => an False Py h fun IG h=>
 κ (Value.tuple (Array.mk [(ptrTo IG),(.int .i64 0)])) h)) := by kernel_rfl
theorem Ue (a0 a1:Value) (h:Heap) (κ:KQ):aK prog 38 [a0,a1] h κ = (
 au False prog .lss 3 true false a0 (.int .i64 1) h fun v0 h=>
 ah (aj v0 false) (fun K1=>
 K1 a0 h) h fun v2 h=>
 ah (aj v0 false) (fun K3=>
 au False prog .gtr 3 true false v2 (.int .i64 64) h K3) h fun v4 h=>
 a_ False v0 (.bool true) v4 h fun v5 h=>
 ah (aj v5 false) (fun K6=>
 K6 a1 h) h fun v7 h=>
 ah (aj v5 false) (fun K8=>
 au False prog .eql 85 true false v7 (.pointer none) h K8) h fun v9 h=>
 a_ False v5 (.bool true) v9 h fun v10 h=>
 ay v10 (
 κ (Value.tuple (Array.mk [(.pointer none),(.int .i64 2)])) h) (
 bD False [(0,1),(1,1)] [a0,a1] [(.int .i64 0),(.pointer none),(.slice none 0 0)] fun Pz=>
 az False (Value.cells (Value.agg (Array.mk Pz))).toList 134 false fun Uf => an False Uf h fun NO h=>
 κ (Value.tuple (Array.mk [(ptrTo NO),(.int .i64 0)])) h)) := by kernel_rfl
def Ez (b1:Nat) (v4 v8 a1:Value) (h:Heap) (κ:KQ):Prop :=
 fieldAddrB False 0 (ptrTo b1) h fun v11 h=>
 load1 False v11 h fun v12 h=>
 CallW prog 69 [v12] h fun bR h=>
 av False 0 bR h fun bV h=>
 av False 1 bR h fun bY h=>
 aI (some v4) h fun v16 h=>
 aI (some bV) h fun v17 h=>
 aI (some v8) h fun cW h=>
 aI (some a1) h fun v19 h=>
 GD (match v19,v19 with | .int _ (.ofNat l),.int _ (.ofNat c) => (match Nat.ble l c,Nat.ble c 1000000 with | true,true => (az none (aO [(.pointer none)] c) 96 false fun o => some (o,sliceTo l c)) | _,_ => none) | _,_ => none) h fun v20 h=>
 GD (some ((.map [] 0),gH)) h fun v21 h=>
 CallW prog 70 [] h fun v22 h=>
 dG ((gz (some v4) v16) && ((gz (some bV) v17) && ((gz (some v8) cW) && ((gz (some a1) v19) && true)))) (aI (bD none [(0,1),(1,1),(2,1),(3,1),(4,1),(5,1)] [v16,v17,cW,v22,v20,v21] [(.pointer none),(.pointer none),(.pointer none),(.pointer none),(.slice none 0 0),(Value.map none),(.int .i64 0)] fun cs => some (Value.agg (Array.mk cs))) h fun v23 h=>
 GD (az none (Value.cells v23).toList 107 false fun o => some (o,ptrTo)) h fun v24 h=>
 κ (Value.tuple (Array.mk [v24,(.int .i64 0)])) h)
def EA (a1:Value) (b1:Nat) (v4:Value) (h:Heap) (κ:KQ):Prop :=
 CallW prog 68 [a1] h fun v7 h=>
 av False 0 v7 h fun v8 h=>
 av False 1 v7 h fun v9 h=>
 au False prog .neq 26 true false v9 (.int .i64 0) h fun v10 h=>
 ay v10 (
 κ (Value.tuple (Array.mk [(.pointer none),v9])) h) (
 Ez b1 v4 v8 a1 h κ)
theorem Ug (a0 a1:Value) (h:Heap) (κ:KQ):aK prog 39 [a0,a1] h κ = (
 az False (Value.cells a0).toList 30 false fun o0 => an False o0 h fun b1 h=>
 aF False 4 (ptrTo b1) h fun v2 h=>
 CallW prog 67 [v2] h fun v3 h=>
 av False 0 v3 h fun v4 h=>
 av False 1 v3 h fun v5 h=>
 au False prog .neq 26 true false v5 (.int .i64 0) h fun v6 h=>
 ay v6 (
 κ (Value.tuple (Array.mk [(.pointer none),v5])) h) (
 EA a1 b1 v4 h κ)) := by kernel_rfl
theorem Uh (a0 a1:Value) (h:Heap) (κ:KQ):aK prog 40 [a0,a1] h κ = (
 CallW prog 41 [a0,a1] h fun v0 h=>
 kU False .not v0 h fun v1 h=>
 ay v1 (
 κ (.pointer none) h) (
 aX False a0 h fun v2 h=>
 fieldAddrB False 4 v2 h fun v3 h=>
 load1 False v3 h fun v4 h=>
 ax False 1 v4 a1 h fun v5 h=>
 load1 False v5 h fun v6 h=>
 κ v6 h)) := by kernel_rfl
theorem Ui (a0 a1:Value) (h:Heap) (κ:KQ):aK prog 41 [a0,a1] h κ = (
 au False prog .neq 32 true false a0 (.pointer none) h fun v0 h=>
 ah (aj v0 true) (fun K1=>
 K1 a1 h) h fun v2 h=>
 ah (aj v0 true) (fun K3=>
 au False prog .geq 3 true false v2 (.int .i64 0) h K3) h fun v4 h=>
 a_ False v0 v4 (.bool false) h fun v5 h=>
 ah (aj v5 true) (fun K6=>
 K6 a1 h) h fun v7 h=>
 ah (aj v5 true) (fun K8=>
 K8 a0 h) h fun v9 h=>
 ah (aj v5 true) (fun nI=>
 aX False v9 h nI) h fun v11 h=>
 ah (aj v5 true) (fun lE=>
 fieldAddrB False 4 v11 h lE) h fun bR h=>
 ah (aj v5 true) (fun pK=>
 load1 False bR h pK) h fun bY h=>
 ah (aj v5 true) (fun tR=>
 bA False bY h tR) h fun v17 h=>
 ah (aj v5 true) (fun AH=>
 au False prog .lss 3 false false v7 v17 h AH) h fun v19 h=>
 a_ False v5 v19 (.bool false) h fun v20 h=>
 κ v20 h) := by kernel_rfl
theorem Uj (a0 a1:Value) (h:Heap) (κ:KQ):aK prog 42 [a0,a1] h κ = (
 az False (Value.cells a0).toList 36 false fun o0 => an False o0 h fun b1 h=>
 aF False 2 (ptrTo b1) h fun v2 h=>
 CallW prog 25 [v2] h fun v3 h=>
 au False prog .neq 26 true false v3 (.int .i64 0) h fun v4 h=>
 ah (aj v4 false) (fun K5=>
 K5 a1 h) h fun v6 h=>
 ah (aj v4 false) (fun K7=>
 au False prog .lss 3 true false v6 (.int .i64 1) h K7) h fun v8 h=>
 a_ False v4 (.bool true) v8 h fun v9 h=>
 ah (aj v9 false) (fun nI=>
 nI a1 h) h fun v11 h=>
 ah (aj v9 false) (fun lE=>
 au False prog .gtr 3 true false v11 (.int .i64 16) h lE) h fun bR h=>
 a_ False v9 (.bool true) bR h fun bV h=>
 ay bV (
 κ (.int .i64 (-1)) h) (
 aF False 2 (ptrTo b1) h fun bY h=>
 CallW prog 71 [bY] h fun v16 h=>
 gU False .u32 a1 h fun v17 h=>
 au False prog .rem 142 false false v16 v17 h fun cW h=>
 gU False .i64 cW h fun v19 h=>
 κ v19 h)) := by kernel_rfl
def EB (b1:Nat) (h:Heap) (κ:KQ):Prop :=
 fieldAddrB False 4 (ptrTo b1) h fun v9 h=>
 load1 False v9 h fun v10 h=>
 CallW prog 73 [v10] h fun v11 h=>
 ah (aj v11 true) (fun lE=>
 fieldAddrB False 4 (ptrTo b1) h lE) h fun bR h=>
 ah (aj v11 true) (fun pK=>
 load1 False bR h pK) h fun bY h=>
 ah (aj v11 true) (fun tR=>
 au False prog .neq 37 true false bY (.int .i64 0) h tR) h fun v17 h=>
 a_ False v11 v17 (.bool false) h fun cW h=>
 ah (aj cW true) (fun C7=>
 fieldAddrB False 5 (ptrTo b1) h C7) h fun v20 h=>
 ah (aj cW true) (fun IC=>
 load1 False v20 h IC) h fun v22 h=>
 ah (aj cW true) (fun ID=>
 au False prog .geq 2 true false v22 (.int .i64 0) h ID) h fun v24 h=>
 a_ False cW v24 (.bool false) h fun v25 h=>
 κ v25 h
def EC (b1:Nat) (h:Heap) (κ:KQ):Prop :=
 fieldAddrB False 0 (ptrTo b1) h fun v26 h=>
 load1 False v26 h fun v27 h=>
 au False prog .eql 3 true false v27 (.int .i64 3) h fun v28 h=>
 ay v28 (
 fieldAddrB False 6 (ptrTo b1) h fun oL h=>
 load1 False oL h fun v30 h=>
 fieldAddrB False 1 (ptrTo b1) h fun v31 h=>
 load1 False v31 h fun v32 h=>
 au False prog .neq 3 false false v30 v32 h fun v33 h=>
 κ v33 h) (
 fieldAddrB False 0 (ptrTo b1) h fun nv h=>
 load1 False nv h fun v35 h=>
 au False prog .eql 3 true false v35 (.int .i64 2) h fun pL h=>
 κ pL h)
theorem Uk (a0:Value) (h:Heap) (κ:KQ):aK prog 43 [a0] h κ = (
 az False (Value.cells a0).toList 39 false fun o0 => an False o0 h fun b1 h=>
 fieldAddrB False 2 (ptrTo b1) h fun v2 h=>
 aF False 2 v2 h fun v3 h=>
 CallW prog 72 [v3] h fun v4 h=>
 au False prog .neq 26 true false v4 (.int .i64 0) h fun v5 h=>
 ay v5 (
 κ (.bool false) h) (
 fieldAddrB False 0 (ptrTo b1) h fun v6 h=>
 load1 False v6 h fun v7 h=>
 au False prog .eql 3 true false v7 (.int .i64 1) h fun v8 h=>
 ay v8 (
 EB b1 h κ) (
 EC b1 h κ))) := by kernel_rfl
def ED (b1:Nat) (a0:Value) (h:Heap) (κ:KQ):Prop :=
 aI (aF none 2 (ptrTo b1) h fun v _=>some v) h fun v3 h=>
 aI (some a0) h fun v4 h=>
 aI (aX none v4 h fun v _=>some v) h fun v5 h=>
 aI (fieldAddrB none 0 v5 h fun v _=>some v) h fun v6 h=>
 aI (fieldAddrB none 0 v6 h fun v _=>some v) h fun v7 h=>
 aI (load1 none v7 h fun v _=>some v) h fun v8 h=>
 CallW prog 74 [v3,v8] h fun v9 h=>
 κ v9 h
theorem Ul (a0 a1:Value) (h:Heap) (κ:KQ):aK prog 44 [a0,a1] h κ = (
 az False (Value.cells a1).toList 36 false fun o0 => an False o0 h fun b1 h=>
 au False prog .eql 100 true false a0 (.pointer none) h fun v2 h=>
 ay v2 (
 κ (.int .i64 (-1)) h) (
 ED b1 a0 h κ)) := by kernel_rfl
theorem NP (a0 a1 a2:Value) (h:Heap) (κ:KQ):aK prog 45 [a0,a1,a2] h κ = (
 aX False a0 h fun v0 h=>
 fieldAddrB False 12 v0 h fun v1 h=>
 aL False 1 v1 a1 h fun v2 h=>
 aX False a0 h fun v3 h=>
 fieldAddrB False 11 v3 h fun v4 h=>
 aL False 1 v4 a2 h fun v5 h=>
 κ (Value.tuple (Array.mk [])) h) := by kernel_rfl
theorem Um (a0:Value) (h:Heap) (κ:KQ):aK prog 46 [a0] h κ = (
 aI (some a0) h fun v0 h=>
 aI (aX none v0 h fun v _=>some v) h fun v1 h=>
 aI (fieldAddrB none 7 v1 h fun v _=>some v) h fun v2 h=>
 aI (load1 none v2 h fun v _=>some v) h fun v3 h=>
 aI (aX none v3 h fun v _=>some v) h fun v4 h=>
 aI (fieldAddrB none 1 v4 h fun v _=>some v) h fun v5 h=>
 aI (load1 none v5 h fun v _=>some v) h fun v6 h=>
 aI (some a0) h fun v7 h=>
 aI (aX none v7 h fun v _=>some v) h fun v8 h=>
 aI (fieldAddrB none 10 v8 h fun v _=>some v) h fun v9 h=>
 aI (load1 none v9 h fun v _=>some v) h fun v10 h=>
 aI (some a0) h fun v11 h=>
 aI (aX none v11 h fun v _=>some v) h fun v12 h=>
 aI (fieldAddrB none 8 v12 h fun v _=>some v) h fun bR h=>
 aI (load1 none bR h fun v _=>some v) h fun bV h=>
 CallW prog 75 [v6,v10,bV] h fun bY h=>
 CallW prog 45 [a0,(.int .i64 2),(Value.func (.func 76) (Array.mk [a0]) (Array.mk []))] h fun v16 h=>
 κ (Value.tuple (Array.mk [])) h) := by kernel_rfl
def EE (b1:Nat) (h:Heap) (κ:KQ):Prop :=
 fieldAddrB False 0 (ptrTo b1) h fun v5 h=>
 load1 False v5 h fun v6 h=>
 au False prog .lss 3 true false v6 (.int .i64 0) h fun v7 h=>
 ah (aj v7 false) (fun K8=>
 fieldAddrB False 0 (ptrTo b1) h K8) h fun v9 h=>
 ah (aj v7 false) (fun nI=>
 load1 False v9 h nI) h fun v11 h=>
 ah (aj v7 false) (fun lE=>
 au False prog .geq 3 true false v11 (.int .i64 100) h lE) h fun bR h=>
 a_ False v7 (.bool true) bR h fun bV h=>
 ah (aj bV false) (fun TX=>
 fieldAddrB False 1 (ptrTo b1) h TX) h fun v16 h=>
 ah (aj bV false) (fun Pr=>
 load1 False v16 h Pr) h fun cW h=>
 ah (aj bV false) (fun C7=>
 au False prog .lss 3 true false cW (.int .i64 (-1)) h C7) h fun v20 h=>
 a_ False bV (.bool true) v20 h fun v21 h=>
 ah (aj v21 false) (fun K22=>
 fieldAddrB False 1 (ptrTo b1) h K22) h fun v23 h=>
 ah (aj v21 false) (fun LU=>
 load1 False v23 h LU) h fun v25 h=>
 ah (aj v21 false) (fun Pu=>
 au False prog .geq 3 true false v25 (.int .i64 100) h Pu) h fun v27 h=>
 a_ False v21 (.bool true) v27 h fun v28 h=>
 ay v28 (
 κ (.int .i64 (-1)) h) (
 fieldAddrB False 1 (ptrTo b1) h fun oL h=>
 load1 False oL h fun v30 h=>
 au False prog .eql 3 true false v30 (.int .i64 (-1)) h fun v31 h=>
 ay v31 (
 κ (.int .i64 1) h) (
 κ (.int .i64 2) h))
theorem Un (a0:Value) (h:Heap) (κ:KQ):aK prog 57 [a0] h κ = (
 az False (Value.cells a0).toList 36 false fun o0 => an False o0 h fun b1 h=>
 aI (aF none 2 (ptrTo b1) h fun v _=>some v) h fun v2 h=>
 CallW prog 96 [] h fun v3 h=>
 dG ((gz (aF none 2 (ptrTo b1) h fun v _=>some v) v2) && true) (aI (au none prog .eql 36 false false v2 v3 h fun v _=>some v) h fun v4 h=>
 ay v4 (
 κ (.int .i64 0) h) (
 EE b1 h κ))) := by kernel_rfl
theorem Uo (a0 a1:Value) (h:Heap) (κ:KQ):aK prog 61 [a0,a1] h κ = (
 CallW prog 99 [a0,a1,(.int .i64 1)] h fun v0 h=>
 κ v0 h) := by kernel_rfl
def EF (a0 a1:Value) (h:Heap) (κ:KQ):Prop :=
 aX False a0 h fun v19 h=>
 fieldAddrB False 0 v19 h fun v20 h=>
 load1 False v20 h fun v21 h=>
 ax False 1 v21 a1 h fun v22 h=>
 load1 False v22 h fun v23 h=>
 aX False v23 h fun v24 h=>
 fieldAddrB False 0 v24 h fun v25 h=>
 load1 False v25 h fun v26 h=>
 κ (Value.tuple (Array.mk [v26,(.bool true)])) h
theorem Up (a0 a1:Value) (h:Heap) (κ:KQ):aK prog 62 [a0,a1] h κ = (
 CallW prog 100 [a0,a1,(.int .i64 0)] h fun v0 h=>
 au False prog .neq 26 true false v0 (.int .i64 0) h fun v1 h=>
 ah (aj v1 false) (fun K2=>
 K2 a0 h) h fun v3 h=>
 ah (aj v1 false) (fun K4=>
 aX False v3 h K4) h fun v5 h=>
 ah (aj v1 false) (fun K6=>
 fieldAddrB False 0 v5 h K6) h fun v7 h=>
 ah (aj v1 false) (fun K8=>
 load1 False v7 h K8) h fun v9 h=>
 ah (aj v1 false) (fun nI=>
 nI a1 h) h fun v11 h=>
 ah (aj v1 false) (fun lE=>
 ax False 1 v9 v11 h lE) h fun bR h=>
 ah (aj v1 false) (fun pK=>
 load1 False bR h pK) h fun bY h=>
 ah (aj v1 false) (fun tR=>
 au False prog .eql 176 true false bY (.pointer none) h tR) h fun v17 h=>
 a_ False v1 (.bool true) v17 h fun cW h=>
 ay cW (
 κ (Value.tuple (Array.mk [(.int .i64 0),(.bool false)])) h) (
 EF a0 a1 h κ)) := by kernel_rfl
def yN (l6:List Value) (v4 v3:Value) (N5:List Value→Heap→Prop) (h:Heap) (κ:KQ):Prop :=
 au False prog .lss 3 false false (slot l6 10) v4 h fun v7 h=>
 ay v7 (
 ax False 1 v3 (slot l6 10) h fun v8 h=>
 load1 False v8 h fun v9 h=>
 CallW prog 103 [v9] h fun v10 h=>
 bE False 81 4 [(.int .i64 0),(.int .i64 0),(.slice none 0 0),(.int .i64 0)] false (slot l6 8) v10 h fun v11 h=>
 au False prog .add 3 true false (slot l6 10) (.int .i64 1) h fun v12 h=>
 N5 [v7,v8,v9,v9,(slot l6 8),v9,v10,v11,v11,v12,v12] h) (
 CallW prog 104 [(slot l6 8),(Value.func (.func 105) (Array.mk []) (Array.mk []))] h fun bR h=>
 κ (slot l6 8) h)
theorem Uq (a0:Value) (h:Heap) (κ:KQ):aK prog 65 [a0] h κ = (
 au False prog .eql 100 true false a0 (.pointer none) h fun v0 h=>
 ay v0 (
 κ (.slice none 0 0) h) (
 aX False a0 h fun v1 h=>
 fieldAddrB False 5 v1 h fun v2 h=>
 load1 False v2 h fun v3 h=>
 bA False v3 h fun v4 h=>
 dP [undef,undef,undef,undef,undef,undef,undef,undef,(.slice none 0 0),undef,(.int .i64 0)] h fun l6 h N5=>
 yN l6 v4 v3 N5 h κ)) := by kernel_rfl
def EG (LW:Nat) (v53:Value) (cE:List Value) (CZ:List Value→Heap→Prop) (v49 v50 v51 pL rq v54 v55:Value) (h:Heap):Prop :=
 aX False (ptrTo LW) h fun tO h=>
 fieldAddrB False 5 tO h fun qG h=>
 load1 False qG h fun v58 h=>
 bD False [(0,1)] [v53] (aO [(.pointer none)] 1) fun Y_ => az False Y_ 182 false fun o59 => an False o59 h fun b60 h=>
 bE False 182 1 [(.pointer none)] false v58 (sliceTo 1 1 b60) h fun AD h=>
 aX False (ptrTo LW) h fun vB h=>
 fieldAddrB False 5 vB h fun v64 h=>
 aL False 1 v64 AD h fun jR h=>
 au False prog .add 3 true false (slot cE 26) (.int .i64 1) h fun v66 h=>
 CZ [v49,v50,v51,pL,rq,rq,v53,v54,v53,v54,v54,v55,(slot cE 12),(slot cE 13),(slot cE 14),(ptrTo LW),(ptrTo LW),tO,qG,v58,v53,(sliceTo 1 1 b60),AD,vB,v64,v66,v66] h
def yO (b1:Nat) (pL:Value) (LW:Nat) (cE:List Value) (CZ:List Value→Heap→Prop) (v49:Value) (h:Heap) (κ:KQ):Prop :=
 fieldAddrB False 1 (ptrTo b1) h fun v50 h=>
 load1 False v50 h fun v51 h=>
 CallW prog 109 [v51,pL] h fun rq h=>
 av False 0 rq h fun v53 h=>
 av False 1 rq h fun v54 h=>
 au False prog .neq 26 true false v54 (.int .i64 0) h fun v55 h=>
 ay v55 (
 κ (Value.tuple (Array.mk [(.pointer none),v54])) h) (
 EG LW v53 cE CZ v49 v50 v51 pL rq v54 v55 h)
def EH (b1:Nat) (pL:Value) (h:Heap) (κ:KQ):Prop :=
 aF False 4 (ptrTo b1) h fun v39 h=>
 an False (.map [] 0) h fun b41 h=>
 bD False [(0,4),(4,1),(6,1)] [v39,pL,(gH b41)] [(.int .i64 0),(.int .i64 0),(.int .i64 0),(.int .i64 0),(.pointer none),(.slice none 0 0),(Value.map none)] fun Za=>
 az False (Value.cells (Value.agg (Array.mk Za))).toList 147 false fun o43 => an False o43 h fun LW h=>
 fieldAddrB False 0 (ptrTo b1) h fun v45 h=>
 load1 False v45 h fun v46 h=>
 dP [undef,undef,undef,undef,undef,undef,undef,undef,undef,undef,undef,undef,undef,(.pointer none),(.int .i64 0),undef,undef,undef,undef,undef,undef,undef,undef,undef,undef,undef,(.int .i64 0)] h fun cE h CZ=>
 au False prog .lss 3 false false (slot cE 26) v46 h fun v49 h=>
 ay v49 (
 yO b1 pL LW cE CZ v49 h κ) (
 κ (Value.tuple (Array.mk [(ptrTo LW),(.int .i64 0)])) h)
def EI (b1:Nat) (h:Heap) (κ:KQ):Prop :=
 fieldAddrB False 2 (ptrTo b1) h fun v33 h=>
 load1 False v33 h fun nv h=>
 CallW prog 108 [nv] h fun v35 h=>
 av False 0 v35 h fun pL h=>
 av False 1 v35 h fun v37 h=>
 au False prog .neq 26 true false v37 (.int .i64 0) h fun vD h=>
 ay vD (
 κ (Value.tuple (Array.mk [(.pointer none),v37])) h) (
 EH b1 pL h κ)
theorem Ur (a0:Value) (h:Heap) (κ:KQ):aK prog 67 [a0] h κ = (
 az False (Value.cells a0).toList 30 false fun o0 => an False o0 h fun b1 h=>
 fieldAddrB False 0 (ptrTo b1) h fun v2 h=>
 load1 False v2 h fun v3 h=>
 au False prog .lss 3 true false v3 (.int .i64 1) h fun v4 h=>
 ah (aj v4 false) (fun K5=>
 fieldAddrB False 0 (ptrTo b1) h K5) h fun v6 h=>
 ah (aj v4 false) (fun K7=>
 load1 False v6 h K7) h fun v8 h=>
 ah (aj v4 false) (fun K9=>
 au False prog .gtr 3 true false v8 (.int .i64 16) h K9) h fun v10 h=>
 a_ False v4 (.bool true) v10 h fun v11 h=>
 ah (aj v11 false) (fun lE=>
 fieldAddrB False 3 (ptrTo b1) h lE) h fun bR h=>
 ah (aj v11 false) (fun pK=>
 load1 False bR h pK) h fun bY h=>
 ah (aj v11 false) (fun tR=>
 au False prog .lss 3 true false bY (.int .i64 0) h tR) h fun v17 h=>
 a_ False v11 (.bool true) v17 h fun cW h=>
 ah (aj cW false) (fun C7=>
 fieldAddrB False 3 (ptrTo b1) h C7) h fun v20 h=>
 ah (aj cW false) (fun IC=>
 load1 False v20 h IC) h fun v22 h=>
 ah (aj cW false) (fun ID=>
 au False prog .gtr 3 true false v22 (.int .i64 8) h ID) h fun v24 h=>
 a_ False cW (.bool true) v24 h fun v25 h=>
 ah (aj v25 false) (fun Pu=>
 fieldAddrB False 2 (ptrTo b1) h Pu) h fun v27 h=>
 ah (aj v25 false) (fun TY=>
 load1 False v27 h TY) h fun oL h=>
 ah (aj v25 false) (fun TZ=>
 au False prog .lss 3 true false oL (.int .i64 1) h TZ) h fun v31 h=>
 a_ False v25 (.bool true) v31 h fun v32 h=>
 ay v32 (
 κ (Value.tuple (Array.mk [(.pointer none),(.int .i64 2)])) h) (
 EI b1 h κ)) := by kernel_rfl
theorem Us (a0:Value) (h:Heap) (κ:KQ):aK prog 68 [a0] h κ = (
 au False prog .lss 3 true false a0 (.int .i64 1) h fun v0 h=>
 ah (aj v0 false) (fun K1=>
 K1 a0 h) h fun v2 h=>
 ah (aj v0 false) (fun K3=>
 au False prog .gtr 3 true false v2 (.int .i64 8) h K3) h fun v4 h=>
 a_ False v0 (.bool true) v4 h fun v5 h=>
 ay v5 (
 κ (Value.tuple (Array.mk [(.pointer none),(.int .i64 2)])) h) (
 Ij False a0 a0 [(.int .i64 0)] 3 h fun v8 h=>
 bD False [(0,1)] [v8] [(.slice none 0 0)] fun Px=>
 az False (Value.cells (Value.agg (Array.mk Px))).toList 193 false fun Py => an False Py h fun IG h=>
 κ (Value.tuple (Array.mk [(ptrTo IG),(.int .i64 0)])) h)) := by kernel_rfl
theorem Ut (a0:Value) (h:Heap) (κ:KQ):aK prog 69 [a0] h κ = (
 au False prog .lss 3 true false a0 (.int .i64 1) h fun v0 h=>
 ah (aj v0 false) (fun K1=>
 K1 a0 h) h fun v2 h=>
 ah (aj v0 false) (fun K3=>
 au False prog .gtr 3 true false v2 (.int .i64 16) h K3) h fun v4 h=>
 a_ False v0 (.bool true) v4 h fun v5 h=>
 ay v5 (
 κ (Value.tuple (Array.mk [(.pointer none),(.int .i64 2)])) h) (
 Ij False a0 a0 [(.pointer none)] 176 h fun v8 h=>
 bD False [(0,1)] [v8] [(.slice none 0 0)] fun Px=>
 az False (Value.cells (Value.agg (Array.mk Px))).toList 179 false fun Py => an False Py h fun IG h=>
 κ (Value.tuple (Array.mk [(ptrTo IG),(.int .i64 0)])) h)) := by kernel_rfl
theorem Uu (h:Heap) (κ:KQ):aK prog 70 [] h κ = (
 bD False [] [] [(.int .i64 0),(.slice none 0 0)] fun cs0=>
 az False (Value.cells (Value.agg (Array.mk cs0))).toList 169 false fun o1 => an False o1 h fun b2 h=>
 κ (ptrTo b2) h) := by kernel_rfl
theorem Uv (a0:Value) (h:Heap) (κ:KQ):aK prog 71 [a0] h κ = (
 az False (Value.cells a0).toList 36 false fun o0 => an False o0 h fun b1 h=>
 aF False 2 (ptrTo b1) h fun v2 h=>
 CallW prog 111 [v2] h fun v3 h=>
 CallW prog 110 [v3] h fun v4 h=>
 κ v4 h) := by kernel_rfl
theorem Uw (a0:Value) (h:Heap) (κ:KQ):aK prog 72 [a0] h κ = (
 az False (Value.cells a0).toList 36 false fun o0 => an False o0 h fun b1 h=>
 aF False 2 (ptrTo b1) h fun v2 h=>
 CallW prog 112 [v2] h fun v3 h=>
 au False prog .eql 3 true false v3 (.int .i64 (-1)) h fun v4 h=>
 ay v4 (
 κ (.int .i64 2) h) (
 κ (.int .i64 0) h)) := by kernel_rfl
theorem Ux (a0:Value) (h:Heap) (κ:KQ):aK prog 73 [a0] h κ = (
 au False prog .geq 37 true false a0 (.int .i64 0) h fun v0 h=>
 ah (aj v0 true) (fun K1=>
 K1 a0 h) h fun v2 h=>
 ah (aj v0 true) (fun K3=>
 au False prog .leq 37 true false v2 (.int .i64 6) h K3) h fun v4 h=>
 a_ False v0 v4 (.bool false) h fun v5 h=>
 κ v5 h) := by kernel_rfl
theorem Uy (a0 a1:Value) (h:Heap) (κ:KQ):aK prog 74 [a0,a1] h κ = (
 az False (Value.cells a0).toList 36 false fun o0 => an False o0 h fun b1 h=>
 CallW prog 113 [a1] h fun v2 h=>
 kU False .not v2 h fun v3 h=>
 ah (aj v3 false) (fun K4=>
 aF False 2 (ptrTo b1) h K4) h fun v5 h=>
 ah (aj v3 false) (fun K6=>
 CallW prog 72 [v5] h K6) h fun v7 h=>
 ah (aj v3 false) (fun K8=>
 au False prog .neq 26 true false v7 (.int .i64 0) h K8) h fun v9 h=>
 a_ False v3 (.bool true) v9 h fun v10 h=>
 ay v10 (
 κ (.int .i64 (-1)) h) (
 aF False 2 (ptrTo b1) h fun v11 h=>
 CallW prog 114 [v11] h fun v12 h=>
 gU False .u32 a1 h fun bR h=>
 au False prog .rem 142 false false v12 bR h fun bV h=>
 gU False .i64 bV h fun bY h=>
 κ bY h)) := by kernel_rfl
def EJ (a0 a2 a1:Value) (h:Heap) (κ:KQ):Prop :=
 aX False a0 h fun v8 h=>
 fieldAddrB False 0 v8 h fun v9 h=>
 load1 False v9 h fun v10 h=>
 bD False [(0,1)] [a2] [(.int .i64 0)] fun Pz=>
 az False (Value.cells (Value.agg (Array.mk Pz))).toList 181 false fun Uf => an False Uf h fun NO h=>
 ax False 1 v10 a1 h fun bV h=>
 aL False 1 bV (ptrTo NO) h fun bY h=>
 κ (Value.tuple (Array.mk [(.bool true),(.int .i64 0)])) h
def LX (v6 a2:Value) (h:Heap) (κ:KQ):Prop :=
 aX False v6 h fun v16 h=>
 fieldAddrB False 0 v16 h fun v17 h=>
 load1 False v17 h fun cW h=>
 au False prog .eql 3 false false cW a2 h fun v19 h=>
 ay v19 (
 κ (Value.tuple (Array.mk [(.bool false),(.int .i64 4)])) h) (
 κ (Value.tuple (Array.mk [(.bool false),(.int .i64 0)])) h)
def EK (a0 a1 a2:Value) (h:Heap) (κ:KQ):Prop :=
 aX False a0 h fun v2 h=>
 fieldAddrB False 0 v2 h fun v3 h=>
 load1 False v3 h fun v4 h=>
 ax False 1 v4 a1 h fun v5 h=>
 load1 False v5 h fun v6 h=>
 au False prog .eql 176 true false v6 (.pointer none) h fun v7 h=>
 ay v7 (
 EJ a0 a2 a1 h κ) (
 LX v6 a2 h κ)
theorem Uz (a0 a1 a2:Value) (h:Heap) (κ:KQ):aK prog 75 [a0,a1,a2] h κ = (
 CallW prog 100 [a0,a1,a2] h fun v0 h=>
 au False prog .neq 26 true false v0 (.int .i64 0) h fun v1 h=>
 ay v1 (
 κ (Value.tuple (Array.mk [(.bool false),v0])) h) (
 EK a0 a1 a2 h κ)) := by kernel_rfl
def EL (a0:Value) (N0:List Value→Heap→Prop) (v2 v3 v4:Value) (h:Heap):Prop :=
 aI (some a0) h fun v6 h=>
 aI (aX none v6 h fun v _=>some v) h fun v7 h=>
 aI (fieldAddrB none 0 v7 h fun v _=>some v) h fun v8 h=>
 aI (fieldAddrB none 0 v8 h fun v _=>some v) h fun v9 h=>
 aI (load1 none v9 h fun v _=>some v) h fun v10 h=>
 aI (some a0) h fun v11 h=>
 CallW prog 116 [] h fun v12 h=>
 dG ((gz (some a0) v6) && ((gz (aX none v6 h fun v _=>some v) v7) && ((gz (fieldAddrB none 0 v7 h fun v _=>some v) v8) && ((gz (fieldAddrB none 0 v8 h fun v _=>some v) v9) && ((gz (load1 none v9 h fun v _=>some v) v10) && ((gz (some a0) v11) && true)))))) (aI (cZ none prog 3 Value.nilFunc false v12 v10 h fun v _=>some v) h fun bR h=>
 iE prog bR [v11] h fun bV h=>
 N0 [a0,v2,v3,v4,undef,undef,v12,v6,v7,v8,v9,v10,bR,v11,bV] h)
def EM (a0:Value) (N0:List Value→Heap→Prop) (h:Heap):Prop :=
 aX False a0 h fun v2 h=>
 fieldAddrB False 13 v2 h fun v3 h=>
 load1 False v3 h fun v4 h=>
 ay v4 (
 CallW prog 115 [a0] h fun v5 h=>
 N0 [a0,v2,v3,v4,a0,v5,undef,undef,undef,undef,undef,undef,undef,undef,undef] h) (
 EL a0 N0 v2 v3 v4 h)
theorem UA (a0:Value) (h:Heap) (κ:KQ):aK prog 76 [a0] h κ = (
 dH (fun N0=>
 EM a0 N0 h) fun l1 h=>
 CallW prog 45 [a0,(.int .i64 3),(Value.func (.func 117) (Array.mk [a0]) (Array.mk []))] h fun bY h=>
 κ (Value.tuple (Array.mk [])) h) := by kernel_rfl
def pM (a0:Value) (l2:List Value) (N1:List Value→Heap→Prop) (v3:Value) (h:Heap) (κ:KQ):Prop :=
 ax False 1 a0 (slot l2 10) h fun v4 h=>
 load1 False v4 h fun v5 h=>
 au False prog .neq 3 false false v5 (.int .i64 0) h fun v6 h=>
 ay v6 (
 κ v5 h) (
 au False prog .add 3 true false (slot l2 10) (.int .i64 1) h fun v7 h=>
 N1 [v3,v4,v5,v5,v5,(.int .i64 0),v6,(slot l2 7),(slot l2 8),v7,v7] h)
theorem UB (a0:Value) (h:Heap) (κ:KQ):aK prog 90 [a0] h κ = (
 bA False a0 h fun v0 h=>
 dP [undef,undef,undef,undef,undef,undef,undef,undef,(.int .i64 0),undef,(.int .i64 0)] h fun l2 h N1=>
 au False prog .lss 3 false false (slot l2 10) v0 h fun v3 h=>
 ay v3 (
 pM a0 l2 N1 v3 h κ) (
 κ (.int .i64 0) h)) := by kernel_rfl
def sk (a0 a1:Value) (h:Heap) (κ:KQ):Prop :=
 au False prog .lss 3 false false a0 a1 h fun v2 h=>
 ay v2 (
 κ (.int .i64 (-1)) h) (
 au False prog .gtr 3 false false a0 a1 h fun v3 h=>
 ay v3 (
 κ (.int .i64 1) h) (
 κ (.int .i64 0) h))
theorem UC (a0 a1:Value) (h:Heap) (κ:KQ):aK prog 91 [a0,a1] h κ = (
 CallW prog 133 [a0] h fun v0 h=>
 CallW prog 133 [a1] h fun v1 h=>
 ay v0 (
 ay v1 (
 κ (.int .i64 0) h) (
 κ (.int .i64 (-1)) h)) (
 ay v1 (
 κ (.int .i64 1) h) (
 sk a0 a1 h κ))) := by kernel_rfl
theorem UD (a0 a1:Value) (h:Heap) (κ:KQ):aK prog 92 [a0,a1] h κ = (
 az False (Value.cells a0).toList 36 false fun o0 => an False o0 h fun b1 h=>
 az False (Value.cells a1).toList 36 false fun o2 => an False o2 h fun b3 h=>
 aI (fieldAddrB none 0 (ptrTo b1) h fun v _=>some v) h fun v4 h=>
 aI (load1 none v4 h fun v _=>some v) h fun v5 h=>
 aI (fieldAddrB none 0 (ptrTo b3) h fun v _=>some v) h fun v6 h=>
 aI (load1 none v6 h fun v _=>some v) h fun v7 h=>
 aI (fieldAddrB none 1 (ptrTo b1) h fun v _=>some v) h fun v8 h=>
 aI (load1 none v8 h fun v _=>some v) h fun v9 h=>
 aI (fieldAddrB none 1 (ptrTo b3) h fun v _=>some v) h fun v10 h=>
 aI (load1 none v10 h fun v _=>some v) h fun v11 h=>
 CallW prog 91 [v5,v7] h fun v12 h=>
 dG ((gz (fieldAddrB none 1 (ptrTo b1) h fun v _=>some v) v8) && ((gz (load1 none v8 h fun v _=>some v) v9) && ((gz (fieldAddrB none 1 (ptrTo b3) h fun v _=>some v) v10) && ((gz (load1 none v10 h fun v _=>some v) v11) && true)))) (CallW prog 91 [v9,v11] h fun bR h=>
 GD (bD none [(0,1),(1,1)] [v12,bR] (aO [(.int .i64 0)] 2) fun cs => az none cs 3 false fun o => some (o,sliceTo 2 2)) h fun bV h=>
 CallW prog 90 [bV] h fun bY h=>
 κ bY h)) := by kernel_rfl
theorem UE (h:Heap) (κ:KQ):aK prog 96 [] h κ = (
 az False [(.int .i64 0),(.int .i64 0)] 36 false fun o0 => an False o0 h fun b1 h=>
 bD False [(0,1),(1,1)] [(.int .i64 (-1)),(.int .i64 (-1))] [(.int .i64 0),(.int .i64 0)] fun LV=>
 aL False 2 (ptrTo b1) (Value.agg (Array.mk LV)) h fun v3 h=>
 aF False 2 (ptrTo b1) h fun v4 _ => κ v4 h) := by kernel_rfl
theorem UG (a0 a1 a2:Value) (h:Heap) (κ:KQ):aK prog 99 [a0,a1,a2] h κ = (
 CallW prog 136 [a0,a1] h fun v0 h=>
 au False prog .eql 26 true false v0 (.int .i64 0) h fun v1 h=>
 ah (aj v1 true) (fun K2=>
 K2 a0 h) h fun v3 h=>
 ah (aj v1 true) (fun K4=>
 aX False v3 h K4) h fun v5 h=>
 ah (aj v1 true) (fun K6=>
 fieldAddrB False 0 v5 h K6) h fun v7 h=>
 ah (aj v1 true) (fun K8=>
 load1 False v7 h K8) h fun v9 h=>
 ah (aj v1 true) (fun nI=>
 nI a1 h) h fun v11 h=>
 ah (aj v1 true) (fun lE=>
 ax False 1 v9 v11 h lE) h fun bR h=>
 ah (aj v1 true) (fun pK=>
 load1 False bR h pK) h fun bY h=>
 ah (aj v1 true) (fun tR=>
 tR a2 h) h fun v17 h=>
 ah (aj v1 true) (fun AH=>
 au False prog .and 3 false false bY v17 h AH) h fun v19 h=>
 ah (aj v1 true) (fun II=>
 au False prog .neq 3 true false v19 (.int .i64 0) h II) h fun v21 h=>
 a_ False v1 v21 (.bool false) h fun v22 h=>
 κ v22 h) := by kernel_rfl
def AI (a1 a0 a2:Value) (h:Heap) (κ:KQ):Prop :=
 au False prog .lss 3 true false a1 (.int .i64 0) h fun v1 h=>
 ah (aj v1 false) (fun K2=>
 K2 a1 h) h fun v3 h=>
 ah (aj v1 false) (fun K4=>
 K4 a0 h) h fun v5 h=>
 ah (aj v1 false) (fun K6=>
 aX False v5 h K6) h fun v7 h=>
 ah (aj v1 false) (fun K8=>
 fieldAddrB False 0 v7 h K8) h fun v9 h=>
 ah (aj v1 false) (fun nI=>
 load1 False v9 h nI) h fun v11 h=>
 ah (aj v1 false) (fun lE=>
 bA False v11 h lE) h fun bR h=>
 ah (aj v1 false) (fun pK=>
 au False prog .geq 3 false false v3 bR h pK) h fun bY h=>
 a_ False v1 (.bool true) bY h fun v16 h=>
 ah (aj v16 false) (fun Pr=>
 Pr a2 h) h fun cW h=>
 ah (aj v16 false) (fun C7=>
 au False prog .lss 3 true false cW (.int .i64 0) h C7) h fun v20 h=>
 a_ False v16 (.bool true) v20 h fun v21 h=>
 ah (aj v21 false) (fun K22=>
 K22 a2 h) h fun v23 h=>
 ah (aj v21 false) (fun LU=>
 au False prog .geq 3 true false v23 (.int .i64 8) h LU) h fun v25 h=>
 a_ False v21 (.bool true) v25 h fun v26 h=>
 ay v26 (
 κ (.int .i64 2) h) (
 κ (.int .i64 0) h)
theorem PA (a0 a1 a2:Value) (h:Heap) (κ:KQ):aK prog 100 [a0,a1,a2] h κ = (
 au False prog .eql 101 true false a0 (.pointer none) h fun v0 h=>
 ay v0 (
 κ (.int .i64 1) h) (
 AI a1 a0 a2 h κ)) := by kernel_rfl
def AJ (v1:Value) (l4:List Value) (a0:Value) (N3:List Value→Heap→Prop) (v5:Value) (h:Heap):Prop :=
 ax False 2 v1 (slot l4 23) h fun v6 h=>
 aF False 2 v6 h fun v7 h=>
 az False [(.int .i64 0),(.int .i64 0)] 36 false fun o8 => an False o8 h fun b9 h=>
 aL False 2 (ptrTo b9) v7 h fun v10 h=>
 aI (some a0) h fun v11 h=>
 aI (aX none v11 h fun v _=>some v) h fun v12 h=>
 aI (fieldAddrB none 2 v12 h fun v _=>some v) h fun bR h=>
 aI (load1 none bR h fun v _=>some v) h fun bV h=>
 aI (aF none 2 (ptrTo b9) h fun v _=>some v) h fun bY h=>
 aI (cZ none prog 36 (.pointer none) false bV bY h fun v _=>some v) h fun v16 h=>
 aI (aX none v16 h fun v _=>some v) h fun v17 h=>
 aI (aF none 4 v17 h fun v _=>some v) h fun cW h=>
 GD (az none [(.int .i64 0),(.int .i64 0),(.slice none 0 0),(.int .i64 0)] 81 false fun o => some (o,ptrTo)) h fun v19 h=>
 aL False 4 v19 cW h fun v20 h=>
 fieldAddrB False 2 v19 h fun v21 h=>
 load1 False v21 h fun v22 h=>
 CallW prog 139 [v22] h fun v23 h=>
 fieldAddrB False 2 v19 h fun v24 h=>
 aL False 1 v24 v23 h fun v25 h=>
 aF False 4 v19 h fun v26 h=>
 bD False [(0,4)] [v26] (aO [(.int .i64 0),(.int .i64 0),(.slice none 0 0),(.int .i64 0)] 1) fun Zb => az False Zb 81 false fun o27 => an False o27 h fun b28 h=>
 bE False 81 4 [(.int .i64 0),(.int .i64 0),(.slice none 0 0),(.int .i64 0)] false (slot l4 21) (sliceTo 1 1 b28) h fun v30 h=>
 au False prog .add 3 true false (slot l4 23) (.int .i64 1) h fun v31 h=>
 N3 [v5,v6,v7,(ptrTo b9),v11,v12,bR,bV,bY,v16,v17,cW,v19,v21,v22,v23,v24,(slot l4 21),v26,(sliceTo 1 1 b28),v30,v30,v31,v31] h
def AK (a0:Value) (h:Heap) (κ:KQ):Prop :=
 CallW prog 138 [a0] h fun v1 h=>
 bA False v1 h fun v2 h=>
 dP [undef,undef,undef,undef,undef,undef,undef,undef,undef,undef,undef,undef,undef,undef,undef,undef,undef,undef,undef,undef,undef,(.slice none 0 0),undef,(.int .i64 0)] h fun l4 h N3=>
 au False prog .lss 3 false false (slot l4 23) v2 h fun v5 h=>
 ay v5 (
 AJ v1 l4 a0 N3 v5 h) (
 κ (slot l4 21) h)
theorem PB (a0:Value) (h:Heap) (κ:KQ):aK prog 103 [a0] h κ = (
 au False prog .eql 182 true false a0 (.pointer none) h fun v0 h=>
 ay v0 (
 κ (.slice none 0 0) h) (
 AK a0 h κ)) := by kernel_rfl
def tT (l13:List Value) (a0:Value) (IG:Nat) (NQ:List Value→Heap→Prop) (h:Heap) (κ:KQ):Prop :=
 au False prog .lss 3 false false (slot l13 11) a0 h fun bV h=>
 ay bV (
 aX False (ptrTo IG) h fun bY h=>
 fieldAddrB False 0 bY h fun v16 h=>
 CallW prog 146 [(Value.iface 240 v16),(Value.iface 3 (slot l13 11))] h fun v17 h=>
 au False prog .add 3 true false (slot l13 11) (.int .i64 1) h fun cW h=>
 NQ [bV,(slot l13 11),(slot l13 11),(ptrTo IG),bY,v16,(Value.iface 240 v16),(slot l13 11),(Value.iface 3 (slot l13 11)),v17,cW,cW] h) (
 κ (Value.tuple (Array.mk [(ptrTo IG),(.int .i64 0)])) h)
theorem IJ (a0:Value) (h:Heap) (κ:KQ):aK prog 108 [a0] h κ = (
 au False prog .lss 3 true false a0 (.int .i64 0) h fun v0 h=>
 ah (aj v0 false) (fun K1=>
 K1 a0 h) h fun v2 h=>
 ah (aj v0 false) (fun K3=>
 au False prog .gtr 3 true false v2 (.int .i64 128) h K3) h fun v4 h=>
 a_ False v0 (.bool true) v4 h fun v5 h=>
 ay v5 (
 κ (Value.tuple (Array.mk [(.pointer none),(.int .i64 2)])) h) (
 Ij False a0 a0 [(.bool false)] 4 h fun v8 h=>
 bD False [(1,1)] [v8] [(.slice none 0 0),(.slice none 0 0)] fun Px=>
 az False (Value.cells (Value.agg (Array.mk Px))).toList 225 false fun Py => an False Py h fun IG h=>
 dP [undef,undef,undef,undef,undef,undef,undef,undef,undef,undef,undef,(.int .i64 0)] h fun l13 h NQ=>
 tT l13 a0 IG NQ h κ)) := by kernel_rfl
theorem IK (a0 a1:Value) (h:Heap) (κ:KQ):aK prog 109 [a0,a1] h κ = (
 au False prog .lss 3 true false a0 (.int .i64 1) h fun v0 h=>
 ah (aj v0 false) (fun K1=>
 K1 a0 h) h fun v2 h=>
 ah (aj v0 false) (fun K3=>
 au False prog .gtr 3 true false v2 (.int .i64 64) h K3) h fun v4 h=>
 a_ False v0 (.bool true) v4 h fun v5 h=>
 ah (aj v5 false) (fun K6=>
 K6 a1 h) h fun v7 h=>
 ah (aj v5 false) (fun K8=>
 au False prog .eql 144 true false v7 (.pointer none) h K8) h fun v9 h=>
 a_ False v5 (.bool true) v9 h fun v10 h=>
 ay v10 (
 κ (Value.tuple (Array.mk [(.pointer none),(.int .i64 2)])) h) (
 an False (.map [] 0) h fun r7 h=>
 bD False [(0,1),(1,1),(2,1)] [a0,a1,(gH r7)] [(.int .i64 0),(.pointer none),(Value.map none)] fun Zc=>
 az False (Value.cells (Value.agg (Array.mk Zc))).toList 220 false fun Zd => an False Zd h fun Xi h=>
 κ (Value.tuple (Array.mk [(ptrTo Xi),(.int .i64 0)])) h)) := by kernel_rfl
def tU (a0:Value) (l1:List Value) (N0:List Value→Heap→Prop) (h:Heap) (κ:KQ):Prop :=
 lT False a0 h fun v2 h=>
 au False prog .lss 3 false false (slot l1 14) v2 h fun v3 h=>
 ay v3 (
 n9 False a0 (slot l1 14) h fun v4 h=>
 gU False .u32 v4 h fun v5 h=>
 au False prog .xor 142 false false (slot l1 11) v5 h fun v6 h=>
 au False prog .mul 142 true false v6 (Value.int .u32 (16777619)) h fun v7 h=>
 au False prog .add 3 true false (slot l1 14) (.int .i64 1) h fun v8 h=>
 N0 [(slot l1 14),a0,v2,v3,(slot l1 11),a0,(slot l1 14),v4,v5,v6,v7,v7,(slot l1 14),v8,v8] h) (
 κ (slot l1 11) h)
theorem PC (a0:Value) (h:Heap) (κ:KQ):aK prog 110 [a0] h κ = (
 dP [undef,undef,undef,undef,undef,undef,undef,undef,undef,undef,undef,(Value.int .u32 (2166136261)),undef,undef,(.int .i64 0)] h fun l1 h N0=>
 tU a0 l1 N0 h κ) := by kernel_rfl
def AL (b1:Nat) (h:Heap) (κ:KQ):Prop :=
 aI (fieldAddrB none 0 (ptrTo b1) h fun v _=>some v) h fun v11 h=>
 aI (load1 none v11 h fun v _=>some v) h fun v12 h=>
 aI (fieldAddrB none 1 (ptrTo b1) h fun v _=>some v) h fun bR h=>
 aI (load1 none bR h fun v _=>some v) h fun bV h=>
 CallW prog 147 [v12] h fun bY h=>
 dG ((gz (fieldAddrB none 1 (ptrTo b1) h fun v _=>some v) bR) && ((gz (load1 none bR h fun v _=>some v) bV) && true)) (aI (au none prog .add 9 true false (Value.string (ByteArray.mk (Array.mk [116]))) bY h fun v _=>some v) h fun v16 h=>
 aI (au none prog .add 9 true false v16 (Value.string (ByteArray.mk (Array.mk [46,114]))) h fun v _=>some v) h fun v17 h=>
 CallW prog 147 [bV] h fun cW h=>
 dG ((gz (au none prog .add 9 true false (Value.string (ByteArray.mk (Array.mk [116]))) bY h fun v _=>some v) v16) && ((gz (au none prog .add 9 true false v16 (Value.string (ByteArray.mk (Array.mk [46,114]))) h fun v _=>some v) v17) && true)) (aI (au none prog .add 9 false false v17 cW h fun v _=>some v) h fun v19 h=>
 κ v19 h))
def tV (v3:Value) (b1:Nat) (h:Heap) (κ:KQ):Prop :=
 au False prog .eql 3 true false v3 (.int .i64 1) h fun v5 h=>
 ay v5 (
 fieldAddrB False 0 (ptrTo b1) h fun v6 h=>
 load1 False v6 h fun v7 h=>
 CallW prog 147 [v7] h fun v8 h=>
 au False prog .add 9 true false (Value.string (ByteArray.mk (Array.mk [116]))) v8 h fun v9 h=>
 κ v9 h) (
 au False prog .eql 3 true false v3 (.int .i64 2) h fun v10 h=>
 ay v10 (
 AL b1 h κ) (
 κ (Value.string (ByteArray.mk (Array.mk [63]))) h))
theorem PD (a0:Value) (h:Heap) (κ:KQ):aK prog 111 [a0] h κ = (
 az False (Value.cells a0).toList 36 false fun o0 => an False o0 h fun b1 h=>
 aF False 2 (ptrTo b1) h fun v2 h=>
 CallW prog 57 [v2] h fun v3 h=>
 au False prog .eql 3 true false v3 (.int .i64 0) h fun v4 h=>
 ay v4 (
 κ (Value.string (ByteArray.mk (Array.mk [100,98]))) h) (
 tV v3 b1 h κ)) := by kernel_rfl
def tW (b1:Nat) (h:Heap) (κ:KQ):Prop :=
 fieldAddrB False 0 (ptrTo b1) h fun bY h=>
 load1 False bY h fun v16 h=>
 CallW prog 149 [v16] h fun v17 h=>
 ah (aj v17 true) (fun AH=>
 fieldAddrB False 1 (ptrTo b1) h AH) h fun v19 h=>
 ah (aj v17 true) (fun II=>
 load1 False v19 h II) h fun v21 h=>
 ah (aj v17 true) (fun K22=>
 CallW prog 149 [v21] h K22) h fun v23 h=>
 a_ False v17 v23 (.bool false) h fun v24 h=>
 ay v24 (
 κ (.int .i64 2) h) (
 κ (.int .i64 (-1)) h)
def AM (b1:Nat) (h:Heap) (κ:KQ):Prop :=
 fieldAddrB False 0 (ptrTo b1) h fun v5 h=>
 load1 False v5 h fun v6 h=>
 CallW prog 149 [v6] h fun v7 h=>
 ah (aj v7 true) (fun K8=>
 fieldAddrB False 1 (ptrTo b1) h K8) h fun v9 h=>
 ah (aj v7 true) (fun nI=>
 load1 False v9 h nI) h fun v11 h=>
 ah (aj v7 true) (fun lE=>
 au False prog .eql 3 true false v11 (.int .i64 (-1)) h lE) h fun bR h=>
 a_ False v7 bR (.bool false) h fun bV h=>
 ay bV (
 κ (.int .i64 1) h) (
 tW b1 h κ)
theorem PE (a0:Value) (h:Heap) (κ:KQ):aK prog 112 [a0] h κ = (
 az False (Value.cells a0).toList 36 false fun o0 => an False o0 h fun b1 h=>
 aI (aF none 2 (ptrTo b1) h fun v _=>some v) h fun v2 h=>
 CallW prog 148 [] h fun v3 h=>
 dG ((gz (aF none 2 (ptrTo b1) h fun v _=>some v) v2) && true) (aI (au none prog .eql 36 false false v2 v3 h fun v _=>some v) h fun v4 h=>
 ay v4 (
 κ (.int .i64 0) h) (
 AM b1 h κ))) := by kernel_rfl
theorem PF (a0:Value) (h:Heap) (κ:KQ):aK prog 113 [a0] h κ = (
 au False prog .geq 3 true false a0 (.int .i64 1) h fun v0 h=>
 ah (aj v0 true) (fun K1=>
 K1 a0 h) h fun v2 h=>
 ah (aj v0 true) (fun K3=>
 au False prog .leq 3 true false v2 (.int .i64 16) h K3) h fun v4 h=>
 a_ False v0 v4 (.bool false) h fun v5 h=>
 κ v5 h) := by kernel_rfl
theorem PG (a0:Value) (h:Heap) (κ:KQ):aK prog 114 [a0] h κ = (
 az False (Value.cells a0).toList 36 false fun o0 => an False o0 h fun b1 h=>
 aF False 2 (ptrTo b1) h fun v2 h=>
 CallW prog 151 [v2] h fun v3 h=>
 CallW prog 150 [v3] h fun v4 h=>
 κ v4 h) := by kernel_rfl
theorem PI (h:Heap) (κ:KQ):aK prog 116 [] h κ = (
 an False (.map [] 0) h fun b1 h=>
 bX False prog 3 (gH b1) (.int .i64 1) (Value.func (.func 155) (Array.mk []) (Array.mk [])) h fun v2 h=>
 bX False prog 3 (gH b1) (.int .i64 2) (Value.func (.func 156) (Array.mk []) (Array.mk [])) h fun v3 h=>
 bX False prog 3 (gH b1) (.int .i64 3) (Value.func (.func 157) (Array.mk []) (Array.mk [])) h fun v4 h=>
 κ (gH b1) h) := by kernel_rfl
theorem PJ (a0:Value) (h:Heap) (κ:KQ):aK prog 117 [a0] h κ = (
 aI (some a0) h fun v0 h=>
 aI (aX none v0 h fun v _=>some v) h fun v1 h=>
 aI (fieldAddrB none 7 v1 h fun v _=>some v) h fun v2 h=>
 aI (load1 none v2 h fun v _=>some v) h fun v3 h=>
 aI (aX none v3 h fun v _=>some v) h fun v4 h=>
 aI (fieldAddrB none 1 v4 h fun v _=>some v) h fun v5 h=>
 aI (load1 none v5 h fun v _=>some v) h fun v6 h=>
 aI (some a0) h fun v7 h=>
 aI (aX none v7 h fun v _=>some v) h fun v8 h=>
 aI (fieldAddrB none 10 v8 h fun v _=>some v) h fun v9 h=>
 aI (load1 none v9 h fun v _=>some v) h fun v10 h=>
 aI (some a0) h fun v11 h=>
 aI (aX none v11 h fun v _=>some v) h fun v12 h=>
 aI (fieldAddrB none 8 v12 h fun v _=>some v) h fun bR h=>
 aI (load1 none bR h fun v _=>some v) h fun bV h=>
 CallW prog 158 [v6,v10,bV] h fun bY h=>
 CallW prog 159 [a0] h fun v16 h=>
 κ (Value.tuple (Array.mk [])) h) := by kernel_rfl
theorem PK (a0:Value) (h:Heap) (κ:KQ):aK prog 133 [a0] h κ = (
 au False prog .neq 3 false false a0 a0 h fun v0 h=>
 κ v0 h) := by kernel_rfl
theorem PL (a0:Value) (h:Heap) (κ:KQ):aK prog 135 [a0] h κ = (
 CallI prog "Len" a0 [] h fun v0 h=>
 au False prog .sub 3 true false v0 (.int .i64 1) h fun v1 h=>
 CallI prog "Swap" a0 [(.int .i64 0),v1] h fun v2 h=>
 CallW prog 172 [a0,(.int .i64 0),v1] h fun v3 h=>
 CallI prog "Pop" a0 [] h fun v4 h=>
 κ v4 h) := by kernel_rfl
def AN (a1 a0:Value) (h:Heap) (κ:KQ):Prop :=
 au False prog .lss 3 true false a1 (.int .i64 0) h fun v1 h=>
 ah (aj v1 false) (fun K2=>
 K2 a1 h) h fun v3 h=>
 ah (aj v1 false) (fun K4=>
 K4 a0 h) h fun v5 h=>
 ah (aj v1 false) (fun K6=>
 aX False v5 h K6) h fun v7 h=>
 ah (aj v1 false) (fun K8=>
 fieldAddrB False 0 v7 h K8) h fun v9 h=>
 ah (aj v1 false) (fun nI=>
 load1 False v9 h nI) h fun v11 h=>
 ah (aj v1 false) (fun lE=>
 bA False v11 h lE) h fun bR h=>
 ah (aj v1 false) (fun pK=>
 au False prog .geq 3 false false v3 bR h pK) h fun bY h=>
 a_ False v1 (.bool true) bY h fun v16 h=>
 ay v16 (
 κ (.int .i64 2) h) (
 κ (.int .i64 0) h)
theorem PM (a0 a1:Value) (h:Heap) (κ:KQ):aK prog 136 [a0,a1] h κ = (
 au False prog .eql 102 true false a0 (.pointer none) h fun v0 h=>
 ay v0 (
 κ (.int .i64 1) h) (
 AN a1 a0 h κ)) := by kernel_rfl
theorem PN (a0:Value) (h:Heap) (κ:KQ):aK prog 137 [a0] h κ = (
 bA False a0 h fun v0 h=>
 κ v0 h) := by kernel_rfl
theorem PO (a0:Value) (h:Heap) (κ:KQ):aK prog 138 [a0] h κ = (
 aX False a0 h fun v0 h=>
 fieldAddrB False 2 v0 h fun v1 h=>
 load1 False v1 h fun v2 h=>
 CallW prog 174 [v2] h fun v3 h=>
 CallW prog 173 [v3,(Value.func (.func 92) (Array.mk []) (Array.mk []))] h fun v4 h=>
 κ v4 h) := by kernel_rfl
theorem PR (a0 a1:Value) (h:Heap) (κ:KQ):aK prog 146 [a0,a1] h κ = (
 CallI prog "Push" a0 [a1] h fun v0 h=>
 CallI prog "Len" a0 [] h fun v1 h=>
 au False prog .sub 3 true false v1 (.int .i64 1) h fun v2 h=>
 CallW prog 199 [a0,v2] h fun v3 h=>
 κ (Value.tuple (Array.mk [])) h) := by kernel_rfl
theorem PS (h:Heap) (κ:KQ):aK prog 148 [] h κ = (
 az False [(.int .i64 0),(.int .i64 0)] 36 false fun o0 => an False o0 h fun b1 h=>
 bD False [(0,1),(1,1)] [(.int .i64 (-1)),(.int .i64 (-1))] [(.int .i64 0),(.int .i64 0)] fun LV=>
 aL False 2 (ptrTo b1) (Value.agg (Array.mk LV)) h fun v3 h=>
 aF False 2 (ptrTo b1) h fun v4 _ => κ v4 h) := by kernel_rfl
theorem PT (a0:Value) (h:Heap) (κ:KQ):aK prog 149 [a0] h κ = (
 au False prog .geq 3 true false a0 (.int .i64 0) h fun v0 h=>
 ah (aj v0 true) (fun K1=>
 K1 a0 h) h fun v2 h=>
 ah (aj v0 true) (fun K3=>
 au False prog .lss 3 true false v2 (.int .i64 100) h K3) h fun v4 h=>
 a_ False v0 v4 (.bool false) h fun v5 h=>
 κ v5 h) := by kernel_rfl
def AO (v0:Value) (l3:List Value) (N2:List Value→Heap→Prop) (v4:Value) (h:Heap):Prop :=
 ax False 1 v0 (slot l3 12) h fun v5 h=>
 load1 False v5 h fun v6 h=>
 gU False .u32 v6 h fun v7 h=>
 au False prog .xor 142 false false (slot l3 10) v7 h fun v8 h=>
 au False prog .mul 142 true false v8 (Value.int .u32 (16777619)) h fun v9 h=>
 au False prog .add 3 true false (slot l3 12) (.int .i64 1) h fun v10 h=>
 N2 [v4,v5,v6,v6,(slot l3 10),v6,v7,v8,v8,v9,v9,v10,v10] h
theorem PU (a0:Value) (h:Heap) (κ:KQ):aK prog 150 [a0] h κ = (
 lV False 5 a0 h fun v0 h=>
 bA False v0 h fun v1 h=>
 dP [undef,undef,undef,undef,undef,undef,undef,undef,undef,undef,(Value.int .u32 (2166136261)),undef,(.int .i64 0)] h fun l3 h N2=>
 au False prog .lss 3 false false (slot l3 12) v1 h fun v4 h=>
 ay v4 (
 AO v0 l3 N2 v4 h) (
 κ (slot l3 10) h)) := by kernel_rfl
def AP (b1:Nat) (h:Heap) (κ:KQ):Prop :=
 aI (fieldAddrB none 0 (ptrTo b1) h fun v _=>some v) h fun v11 h=>
 aI (load1 none v11 h fun v _=>some v) h fun v12 h=>
 aI (fieldAddrB none 1 (ptrTo b1) h fun v _=>some v) h fun bR h=>
 aI (load1 none bR h fun v _=>some v) h fun bV h=>
 CallW prog 200 [v12] h fun bY h=>
 dG ((gz (fieldAddrB none 1 (ptrTo b1) h fun v _=>some v) bR) && ((gz (load1 none bR h fun v _=>some v) bV) && true)) (aI (au none prog .add 9 true false (Value.string (ByteArray.mk (Array.mk [116]))) bY h fun v _=>some v) h fun v16 h=>
 aI (au none prog .add 9 true false v16 (Value.string (ByteArray.mk (Array.mk [46,114]))) h fun v _=>some v) h fun v17 h=>
 CallW prog 200 [bV] h fun cW h=>
 dG ((gz (au none prog .add 9 true false (Value.string (ByteArray.mk (Array.mk [116]))) bY h fun v _=>some v) v16) && ((gz (au none prog .add 9 true false v16 (Value.string (ByteArray.mk (Array.mk [46,114]))) h fun v _=>some v) v17) && true)) (aI (au none prog .add 9 false false v17 cW h fun v _=>some v) h fun v19 h=>
 κ v19 h))
def tX (v3:Value) (b1:Nat) (h:Heap) (κ:KQ):Prop :=
 au False prog .eql 3 true false v3 (.int .i64 1) h fun v5 h=>
 ay v5 (
 fieldAddrB False 0 (ptrTo b1) h fun v6 h=>
 load1 False v6 h fun v7 h=>
 CallW prog 200 [v7] h fun v8 h=>
 au False prog .add 9 true false (Value.string (ByteArray.mk (Array.mk [116]))) v8 h fun v9 h=>
 κ v9 h) (
 au False prog .eql 3 true false v3 (.int .i64 2) h fun v10 h=>
 ay v10 (
 AP b1 h κ) (
 κ (Value.string (ByteArray.mk (Array.mk [63]))) h))
theorem PV (a0:Value) (h:Heap) (κ:KQ):aK prog 151 [a0] h κ = (
 az False (Value.cells a0).toList 36 false fun o0 => an False o0 h fun b1 h=>
 aF False 2 (ptrTo b1) h fun v2 h=>
 CallW prog 112 [v2] h fun v3 h=>
 au False prog .eql 3 true false v3 (.int .i64 0) h fun v4 h=>
 ay v4 (
 κ (Value.string (ByteArray.mk (Array.mk [100,98]))) h) (
 tX v3 b1 h κ)) := by kernel_rfl
theorem PW (a0 a1:Value) (h:Heap) (κ:KQ):aK prog 152 [a0,a1] h κ = (
 az False [(.int .i64 0),(.int .i64 0)] 36 false fun o0 => an False o0 h fun b1 h=>
 az False [(.int .i64 0),(.int .i64 0),(.int .i64 0),(.int .i64 0),(.int .i64 0)] 83 false fun o2 => an False o2 h fun b3 h=>
 CallW prog 201 [a0,a1] h fun v4 h=>
 CallW prog 202 [v4,a1] h fun v5 h=>
 av False 0 v5 h fun v6 h=>
 av False 1 v5 h fun v7 h=>
 av False 2 v5 h fun v8 h=>
 aL False 2 (ptrTo b1) v6 h fun v9 h=>
 aL False 5 (ptrTo b3) v7 h fun v10 h=>
 aF False 2 (ptrTo b1) h fun v11 _ => aF False 5 (ptrTo b3) h fun v12 _ => κ (Value.tuple (Array.mk [v11,v12,v8])) h) := by kernel_rfl
def AQ (a0 v19:Value) (LY:List Value→Heap→Prop) (v20:Value) (h:Heap):Prop :=
 aX False a0 h fun v23 h=>
 fieldAddrB False 7 v23 h fun v24 h=>
 load1 False v24 h fun v25 h=>
 aX False v25 h fun v26 h=>
 fieldAddrB False 0 v26 h fun v27 h=>
 load1 False v27 h fun v28 h=>
 CallW prog 152 [v28,v19] h fun oL h=>
 av False 0 oL h fun v30 h=>
 av False 1 oL h fun v31 h=>
 av False 2 oL h fun v32 h=>
 az False [(.int .i64 0),(.int .i64 0)] 36 false fun o33 => an False o33 h fun b34 h=>
 az False [(.int .i64 0),(.int .i64 0),(.int .i64 0),(.int .i64 0),(.int .i64 0)] 83 false fun o35 => an False o35 h fun Ze h=>
 aL False 2 (ptrTo b34) v30 h fun v37 h=>
 aL False 5 (ptrTo Ze) v31 h fun vD h=>
 fieldAddrB False 2 (ptrTo Ze) h fun v39 h=>
 load1 False v39 h fun v40 h=>
 LY [v20,a0,v23,v24,v25,v26,v27,v28,v19,oL,oL,v30,v31,v32,(ptrTo b34),(ptrTo Ze),v32,v39,v40,v40] h
def AR (tO:Value) (IL:List Value) (a0 v45:Value) (Xj:List Value→Heap→Prop) (h:Heap):Prop :=
 ax False 5 tO (slot IL 29) h fun vB h=>
 aF False 5 vB h fun v64 h=>
 az False [(.int .i64 0),(.int .i64 0),(.int .i64 0),(.int .i64 0),(.int .i64 0)] 83 false fun Zf => an False Zf h fun Kv h=>
 aL False 5 (ptrTo Kv) v64 h fun v67 h=>
 aI (fieldAddrB none 1 (ptrTo Kv) h fun v _=>some v) h fun qE h=>
 aI (load1 none qE h fun v _=>some v) h fun r_ h=>
 aI (au none prog .lss 3 true false r_ (.int .i64 0) h fun v _=>some v) h fun v70 h=>
 aI (some v70) h fun rm h=>
 ah (aj rm true) (fun Zg=>
 aI (fieldAddrB none 1 (ptrTo Kv) h fun v _=>some v) h Zg) h fun GF h=>
 ah (aj rm true) (fun K74=>
 aI (load1 none GF h fun v _=>some v) h K74) h fun v75 h=>
 ah (aj rm true) (fun K76=>
 aI (some a0) h K76) h fun v77 h=>
 ah (aj rm true) (fun K78=>
 aI (aX none v77 h fun v _=>some v) h K78) h fun v79 h=>
 ah (aj rm true) (fun K80=>
 aI (fieldAddrB none 0 v79 h fun v _=>some v) h K80) h fun Kt h=>
 ah (aj rm true) (fun K82=>
 aI (fieldAddrB none 1 Kt h fun v _=>some v) h K82) h fun Cg h=>
 ah (aj rm true) (fun K84=>
 aI (load1 none Cg h fun v _=>some v) h K84) h fun v85 h=>
 ah (aj rm true) (fun K86=>
 aI (au none prog .neq 3 false false v75 v85 h fun v _=>some v) h K86) h fun v87 h=>
 aI (a_ none rm v87 (.bool false) h fun v _=>some v) h fun Ku h=>
 aI (some Ku) h fun FJ h=>
 ah (aj FJ true) (fun K90=>
 aI (fieldAddrB none 2 (ptrTo Kv) h fun v _=>some v) h K90) h fun v91 h=>
 ah (aj FJ true) (fun K92=>
 aI (load1 none v91 h fun v _=>some v) h K92) h fun v93 h=>
 ah (aj FJ true) (fun K94=>
 aI (some v45) h K94) h fun NN h=>
 ah (aj FJ true) (fun K96=>
 CallW prog 210 [v93,NN] h K96) h fun Sv h=>
 ah (aj FJ true) (fun K98=>
 aI (kU none .not Sv h fun v _=>some v) h K98) h fun LL h=>
 aI (a_ none FJ LL (.bool false) h fun v _=>some v) h fun LM h=>
 ay LM (
 fieldAddrB False 0 (ptrTo Kv) h fun FK h=>
 load1 False FK h fun FL h=>
 CallW prog 211 [a0,FL] h fun qF h=>
 Xj [vB,v64,(ptrTo Kv),qE,r_,v70,rm,GF,v75,v77,v79,Kt,Cg,v85,v87,Ku,FJ,v91,v93,NN,Sv,LL,LM,a0,FK,FL,qF] h) (
 Xj [vB,v64,(ptrTo Kv),qE,r_,v70,rm,GF,v75,v77,v79,Kt,Cg,v85,v87,Ku,FJ,v91,v93,NN,Sv,LL,LM,(slot IL 24),(slot IL 25),(slot IL 26),(slot IL 27)] h)
def AS (a0 v45:Value) (FP:List Value→Heap→Prop) (yP:List Value) (tN:Value) (h:Heap):Prop :=
 aI (some a0) h fun FM h=>
 aI (aX none FM h fun v _=>some v) h fun v117 h=>
 aI (fieldAddrB none 7 v117 h fun v _=>some v) h fun LN h=>
 aI (load1 none LN h fun v _=>some v) h fun Iq h=>
 aI (aX none Iq h fun v _=>some v) h fun LP h=>
 aI (fieldAddrB none 0 LP h fun v _=>some v) h fun C6 h=>
 aI (load1 none C6 h fun v _=>some v) h fun UH h=>
 aI (some a0) h fun LQ h=>
 aI (aX none LQ h fun v _=>some v) h fun v124 h=>
 aI (fieldAddrB none 0 v124 h fun v _=>some v) h fun LR h=>
 aI (fieldAddrB none 2 LR h fun v _=>some v) h fun UI h=>
 aI (aF none 2 UI h fun v _=>some v) h fun v127 h=>
 aI (some a0) h fun LS h=>
 aI (aX none LS h fun v _=>some v) h fun UJ h=>
 aI (fieldAddrB none 0 UJ h fun v _=>some v) h fun v130 h=>
 aI (fieldAddrB none 1 v130 h fun v _=>some v) h fun v131 h=>
 aI (load1 none v131 h fun v _=>some v) h fun nH h=>
 aI (some v45) h fun UK h=>
 CallW prog 213 [UH,v127,nH,UK] h fun UL h=>
 aI (some UL) h fun C8 h=>
 aI (av none 0 C8 h fun v _=>some v) h fun tQ h=>
 aI (av none 1 C8 h fun v _=>some v) h fun kN h=>
 aI (av none 2 C8 h fun v _=>some v) h fun v138 h=>
 dG ((gz (av none 1 C8 h fun v _=>some v) kN) && ((gz (av none 2 C8 h fun v _=>some v) v138) && true)) (dG ((gz (av none 2 C8 h fun v _=>some v) v138) && true) (FP [(slot yP 19),tN,FM,v117,LN,Iq,LP,C6,UH,LQ,v124,LR,UI,v127,LS,UJ,v130,v131,nH,UK,UL,C8,tQ,kN,v138,tQ,undef,undef,undef,undef,undef,undef,undef,undef,undef,undef,undef,undef,undef,kN,v138] h))
def AT (a0 v19 v45:Value) (FP:List Value→Heap→Prop) (yP:List Value) (tN:Value) (h:Heap):Prop :=
 aX False a0 h fun v139 h=>
 fieldAddrB False 7 v139 h fun AG h=>
 load1 False AG h fun v141 h=>
 aX False v141 h fun UM h=>
 fieldAddrB False 0 UM h fun v143 h=>
 load1 False v143 h fun AE h=>
 CallW prog 214 [AE,v19,v45] h fun v145 h=>
 av False 0 v145 h fun v146 h=>
 av False 1 v145 h fun UN h=>
 FP [(slot yP 19),tN,undef,undef,undef,undef,undef,undef,undef,undef,undef,undef,undef,undef,undef,undef,undef,undef,undef,undef,undef,undef,undef,undef,undef,v19,a0,v139,AG,v141,UM,v143,AE,v19,v45,v145,v145,v146,UN,v146,UN] h
def AU (wo:List Value) (a0:Value) (h:Heap) (κ:KQ):Prop :=
 ay (slot wo 39) (
 aX False a0 h fun C5 h=>
 fieldAddrB False 16 C5 h fun v157 h=>
 aL False 1 v157 (.int .i64 1) h fun FO h=>
 κ (Value.tuple (Array.mk [])) h) (
 CallW prog 215 [a0,(slot wo 25)] h fun v159 h=>
 κ (Value.tuple (Array.mk [])) h)
def AV (wo:List Value) (a0:Value) (h:Heap) (κ:KQ):Prop :=
 au False prog .neq 26 true false (slot wo 40) (.int .i64 0) h fun v152 h=>
 ay v152 (
 aX False a0 h fun C4 h=>
 fieldAddrB False 16 C4 h fun v154 h=>
 aL False 1 v154 (.int .i64 6) h fun aed h=>
 κ (Value.tuple (Array.mk [])) h) (
 AU wo a0 h κ)
def AW (wo:List Value) (a0:Value) (h:Heap) (κ:KQ):Prop :=
 au False prog .eql 26 true false (slot wo 40) (.int .i64 8) h fun v148 h=>
 ay v148 (
 aX False a0 h fun C2 h=>
 fieldAddrB False 16 C2 h fun C3 h=>
 aL False 1 C3 (.int .i64 5) h fun YL h=>
 κ (Value.tuple (Array.mk [])) h) (
 AV wo a0 h κ)
def AX (a0:Value) (yP:List Value) (v45 v19:Value) (h:Heap) (κ:KQ):Prop :=
 aX False a0 h fun v105 h=>
 fieldAddrB False 0 v105 h fun Zh h=>
 fieldAddrB False 4 Zh h fun v107 h=>
 load1 False v107 h fun Zi h=>
 CallW prog 212 [(slot yP 19),Zi] h fun v109 h=>
 ay v109 (
 aX False a0 h fun Zj h=>
 fieldAddrB False 16 Zj h fun Im h=>
 aL False 1 Im (.int .i64 1) h fun aee h=>
 κ (Value.tuple (Array.mk [])) h) (
 dH (fun FP=>
 au False prog .eql 37 true false (slot yP 19) (.int .i64 0) h fun tN h=>
 ay tN (
 AS a0 v45 FP yP tN h) (
 AT a0 v19 v45 FP yP tN h)) fun wo h=>
 AW wo a0 h κ)
def tY (IL:List Value) (qG tO a0 v45:Value) (Zk:List Value→Heap→Prop) (yP:List Value) (v19:Value) (h:Heap) (κ:KQ):Prop :=
 au False prog .lss 3 false false (slot IL 29) qG h fun v60 h=>
 ay v60 (
 dH (fun Xj=>
 AR tO IL a0 v45 Xj h) fun qH h=>
 au False prog .add 3 true false (slot IL 29) (.int .i64 1) h fun UO h=>
 Zk [v60,(slot qH 0),(slot qH 1),(slot qH 2),(slot qH 3),(slot qH 4),(slot qH 5),(slot qH 6),(slot qH 7),(slot qH 8),(slot qH 9),(slot qH 10),(slot qH 11),(slot qH 12),(slot qH 13),(slot qH 14),(slot qH 15),(slot qH 16),(slot qH 17),(slot qH 18),(slot qH 19),(slot qH 20),(slot qH 21),(slot qH 22),(slot qH 23),(slot qH 24),(slot qH 25),(slot qH 26),UO,UO] h) (
 AX a0 yP v45 v19 h κ)
def tZ (a0:Value) (yP:List Value) (v19:Value) (h:Heap) (κ:KQ):Prop :=
 aX False a0 h fun v41 h=>
 fieldAddrB False 0 v41 h fun vC h=>
 fieldAddrB False 4 vC h fun pH h=>
 load1 False pH h fun v44 h=>
 CallW prog 208 [(slot yP 19),v44] h fun v45 h=>
 aI (some a0) h fun v46 h=>
 aI (aX none v46 h fun v _=>some v) h fun vE h=>
 aI (fieldAddrB none 7 vE h fun v _=>some v) h fun Ch h=>
 aI (load1 none Ch h fun v _=>some v) h fun v49 h=>
 aI (some a0) h fun v50 h=>
 aI (aX none v50 h fun v _=>some v) h fun v51 h=>
 aI (fieldAddrB none 0 v51 h fun v _=>some v) h fun rq h=>
 aI (fieldAddrB none 2 rq h fun v _=>some v) h fun v53 h=>
 aI (aF none 2 v53 h fun v _=>some v) h fun v54 h=>
 aI (some (.int .i64 0)) h fun v55 h=>
 CallW prog 209 [v49,v54] h fun tO h=>
 dG ((gz (some (.int .i64 0)) v55) && true) (aI (bA none tO h fun v _=>some v) h fun qG h=>
 dP [undef,undef,undef,undef,undef,undef,undef,undef,undef,undef,undef,undef,undef,undef,undef,undef,undef,undef,undef,undef,undef,undef,undef,undef,undef,undef,undef,undef,undef,v55] h fun IL h Zk=>
 tY IL qG tO a0 v45 Zk yP v19 h κ)
theorem PX (a0:Value) (h:Heap) (κ:KQ):aK prog 155 [a0] h κ = (
 aI (some a0) h fun v0 h=>
 aI (aX none v0 h fun v _=>some v) h fun v1 h=>
 aI (fieldAddrB none 7 v1 h fun v _=>some v) h fun v2 h=>
 aI (load1 none v2 h fun v _=>some v) h fun v3 h=>
 aI (aX none v3 h fun v _=>some v) h fun v4 h=>
 aI (fieldAddrB none 0 v4 h fun v _=>some v) h fun v5 h=>
 aI (load1 none v5 h fun v _=>some v) h fun v6 h=>
 aI (some a0) h fun v7 h=>
 aI (aX none v7 h fun v _=>some v) h fun v8 h=>
 aI (fieldAddrB none 0 v8 h fun v _=>some v) h fun v9 h=>
 aI (fieldAddrB none 2 v9 h fun v _=>some v) h fun v10 h=>
 aI (aF none 2 v10 h fun v _=>some v) h fun v11 h=>
 aI (some a0) h fun v12 h=>
 aI (aX none v12 h fun v _=>some v) h fun bR h=>
 aI (fieldAddrB none 0 bR h fun v _=>some v) h fun bV h=>
 aI (fieldAddrB none 1 bV h fun v _=>some v) h fun bY h=>
 aI (load1 none bY h fun v _=>some v) h fun v16 h=>
 CallW prog 207 [v6,v11,v16] h fun v17 h=>
 aI (some v17) h fun cW h=>
 aI (av none 0 cW h fun v _=>some v) h fun v19 h=>
 aI (av none 1 cW h fun v _=>some v) h fun v20 h=>
 dG ((gz (av none 1 cW h fun v _=>some v) v20) && true) (dH (fun LY=>
 ay v20 (
 AQ a0 v19 LY v20 h) (
 LY [v20,undef,undef,undef,undef,undef,undef,undef,undef,undef,undef,undef,undef,undef,undef,undef,undef,undef,undef,(.int .i64 0)] h)) fun yP h=>
 tZ a0 yP v19 h κ)) := by kernel_rfl
theorem PY (a0:Value) (h:Heap) (κ:KQ):aK prog 156 [a0] h κ = (
 aI (some a0) h fun v0 h=>
 aI (aX none v0 h fun v _=>some v) h fun v1 h=>
 aI (fieldAddrB none 7 v1 h fun v _=>some v) h fun v2 h=>
 aI (load1 none v2 h fun v _=>some v) h fun v3 h=>
 aI (aX none v3 h fun v _=>some v) h fun v4 h=>
 aI (fieldAddrB none 0 v4 h fun v _=>some v) h fun v5 h=>
 aI (load1 none v5 h fun v _=>some v) h fun v6 h=>
 aI (some a0) h fun v7 h=>
 aI (aX none v7 h fun v _=>some v) h fun v8 h=>
 aI (fieldAddrB none 0 v8 h fun v _=>some v) h fun v9 h=>
 aI (fieldAddrB none 2 v9 h fun v _=>some v) h fun v10 h=>
 aI (aF none 2 v10 h fun v _=>some v) h fun v11 h=>
 aI (some a0) h fun v12 h=>
 aI (aX none v12 h fun v _=>some v) h fun bR h=>
 aI (fieldAddrB none 0 bR h fun v _=>some v) h fun bV h=>
 aI (fieldAddrB none 1 bV h fun v _=>some v) h fun bY h=>
 aI (load1 none bY h fun v _=>some v) h fun v16 h=>
 CallW prog 207 [v6,v11,v16] h fun v17 h=>
 aI (some v17) h fun cW h=>
 aI (av none 0 cW h fun v _=>some v) h fun v19 h=>
 aI (av none 1 cW h fun v _=>some v) h fun v20 h=>
 dG ((gz (av none 1 cW h fun v _=>some v) v20) && true) (kU False .not v20 h fun v21 h=>
 ay v21 (
 aX False a0 h fun v22 h=>
 fieldAddrB False 16 v22 h fun v23 h=>
 aL False 1 v23 (.int .i64 6) h fun v24 h=>
 κ (Value.tuple (Array.mk [])) h) (
 CallW prog 211 [a0,v19] h fun v25 h=>
 aX False a0 h fun v26 h=>
 fieldAddrB False 16 v26 h fun v27 h=>
 aL False 1 v27 (.int .i64 1) h fun v28 h=>
 κ (Value.tuple (Array.mk [])) h))) := by kernel_rfl
def AY (a0 a1 a2:Value) (h:Heap) (κ:KQ):Prop :=
 aX False a0 h fun v2 h=>
 fieldAddrB False 0 v2 h fun v3 h=>
 load1 False v3 h fun v4 h=>
 ax False 1 v4 a1 h fun v5 h=>
 load1 False v5 h fun v6 h=>
 au False prog .eql 176 true false v6 (.pointer none) h fun v7 h=>
 ah (aj v7 false) (fun K8=>
 K8 v6 h) h fun v9 h=>
 ah (aj v7 false) (fun nI=>
 aX False v9 h nI) h fun v11 h=>
 ah (aj v7 false) (fun lE=>
 fieldAddrB False 0 v11 h lE) h fun bR h=>
 ah (aj v7 false) (fun pK=>
 load1 False bR h pK) h fun bY h=>
 ah (aj v7 false) (fun tR=>
 tR a2 h) h fun v17 h=>
 ah (aj v7 false) (fun AH=>
 au False prog .neq 3 false false bY v17 h AH) h fun v19 h=>
 a_ False v7 (.bool true) v19 h fun v20 h=>
 ay v20 (
 κ (.int .i64 6) h) (
 aX False a0 h fun v21 h=>
 fieldAddrB False 0 v21 h fun v22 h=>
 load1 False v22 h fun v23 h=>
 ax False 1 v23 a1 h fun v24 h=>
 aL False 1 v24 (.pointer none) h fun v25 h=>
 κ (.int .i64 0) h)
theorem PZ (a0 a1 a2:Value) (h:Heap) (κ:KQ):aK prog 158 [a0,a1,a2] h κ = (
 CallW prog 100 [a0,a1,a2] h fun v0 h=>
 au False prog .neq 26 true false v0 (.int .i64 0) h fun v1 h=>
 ay v1 (
 κ v0 h) (
 AY a0 a1 a2 h κ)) := by kernel_rfl
def AZ (a0:Value) (h:Heap) (κ:KQ):Prop :=
 aX False a0 h fun v10 h=>
 fieldAddrB False 17 v10 h fun v11 h=>
 aL False 1 v11 (.bool true) h fun v12 h=>
 aI (some a0) h fun bR h=>
 aI (aX none bR h fun v _=>some v) h fun bV h=>
 aI (fieldAddrB none 7 bV h fun v _=>some v) h fun bY h=>
 aI (load1 none bY h fun v _=>some v) h fun v16 h=>
 aI (aX none v16 h fun v _=>some v) h fun v17 h=>
 aI (fieldAddrB none 4 v17 h fun v _=>some v) h fun cW h=>
 aI (load1 none cW h fun v _=>some v) h fun v19 h=>
 aI (some a0) h fun v20 h=>
 aI (aX none v20 h fun v _=>some v) h fun v21 h=>
 aI (fieldAddrB none 8 v21 h fun v _=>some v) h fun v22 h=>
 aI (load1 none v22 h fun v _=>some v) h fun v23 h=>
 aI (ax none 1 v19 v23 h fun v _=>some v) h fun v24 h=>
 aL False 1 v24 (.pointer none) h fun v25 h=>
 κ (Value.tuple (Array.mk [])) h
def A0 (a0:Value) (h:Heap) (κ:KQ):Prop :=
 aX False a0 h fun v6 h=>
 fieldAddrB False 16 v6 h fun v7 h=>
 load1 False v7 h fun v8 h=>
 au False prog .neq 3 true false v8 (.int .i64 0) h fun v9 h=>
 ay v9 (
 AZ a0 h κ) (
 CallW prog 45 [a0,(.int .i64 5),(Value.func (.func 218) (Array.mk [a0]) (Array.mk []))] h fun v26 h=>
 κ (Value.tuple (Array.mk [])) h)
theorem P0 (a0:Value) (h:Heap) (κ:KQ):aK prog 159 [a0] h κ = (
 aX False a0 h fun v0 h=>
 fieldAddrB False 18 v0 h fun v1 h=>
 load1 False v1 h fun v2 h=>
 bA False v2 h fun v3 h=>
 au False prog .gtr 3 true false v3 (.int .i64 0) h fun v4 h=>
 ay v4 (
 CallW prog 45 [a0,(.int .i64 4),(Value.func (.func 217) (Array.mk [a0]) (Array.mk []))] h fun v5 h=>
 κ (Value.tuple (Array.mk [])) h) (
 A0 a0 h κ)) := by kernel_rfl
def t_ (v5 a2 a0:Value) (NQ:List Value→Heap→Prop) (l3:List Value) (h:Heap):Prop :=
 au False prog .add 3 true false v5 (.int .i64 1) h fun bV h=>
 au False prog .lss 3 false false bV a2 h fun bY h=>
 ah (aj bY true) (fun tR=>
 tR a0 h) h fun v17 h=>
 ah (aj bY true) (fun AH=>
 AH bV h) h fun v19 h=>
 ah (aj bY true) (fun II=>
 II v5 h) h fun v21 h=>
 ah (aj bY true) (fun K22=>
 CallI prog "Less" v17 [v19,v21] h K22) h fun v23 h=>
 a_ False bY v23 (.bool false) h fun v24 h=>
 ay v24 (
 NQ [v5,bV,bV,bV,a2,bY,bY,v17,v19,v21,v23,v24,bV,bV] h) (
 NQ [v5,bV,bV,bV,a2,bY,bY,v17,v19,v21,v23,v24,(slot l3 24),v5] h)
def A3 (v5 a2 a0:Value) (l3:List Value) (N0:List Value→Heap→Prop) (v4 v6 v8 v10 v11:Value) (N2:List Value→Heap→Prop) (h:Heap):Prop :=
 dH (fun NQ=>
 t_ v5 a2 a0 NQ l3 h) fun l13 h=>
 CallI prog "Less" a0 [(slot l13 13),(slot l3 36)] h fun v25 h=>
 kU False .not v25 h fun v26 h=>
 ay v26 (
 N0 [(slot l3 36),v4,v5,v5,v5,a2,v6,v6,v8,v10,v11,v5,(slot l13 0),(slot l13 1),(slot l13 2),(slot l13 3),(slot l13 4),(slot l13 5),(slot l13 6),(slot l13 7),(slot l13 8),(slot l13 9),(slot l13 10),(slot l13 11),(slot l13 12),(slot l13 13),a0,(slot l13 13),(slot l3 36),v25,v26,(slot l3 31),(slot l3 32),(slot l3 33),(slot l3 34),(slot l3 35),(slot l3 36)] h) (
 CallI prog "Swap" a0 [(slot l3 36),(slot l13 13)] h fun v27 h=>
 N2 [(slot l3 36),v4,v5,v5,v5,a2,v6,v6,v8,v10,v11,v5,(slot l13 0),(slot l13 1),(slot l13 2),(slot l13 3),(slot l13 4),(slot l13 5),(slot l13 6),(slot l13 7),(slot l13 8),(slot l13 9),(slot l13 10),(slot l13 11),(slot l13 12),(slot l13 13),a0,(slot l13 13),(slot l3 36),v25,v26,a0,(slot l3 36),(slot l13 13),v27,(slot l13 13),(slot l13 13)] h)
def ud (l3:List Value) (a2:Value) (N0:List Value→Heap→Prop) (a0:Value) (N2:List Value→Heap→Prop) (h:Heap):Prop :=
 au False prog .mul 3 true false (.int .i64 2) (slot l3 36) h fun v4 h=>
 au False prog .add 3 true false v4 (.int .i64 1) h fun v5 h=>
 au False prog .geq 3 false false v5 a2 h fun v6 h=>
 ah (aj v6 false) (fun K7=>
 K7 v5 h) h fun v8 h=>
 ah (aj v6 false) (fun K9=>
 au False prog .lss 3 true false v8 (.int .i64 0) h K9) h fun v10 h=>
 a_ False v6 (.bool true) v10 h fun v11 h=>
 ay v11 (
 N0 [(slot l3 36),v4,v5,v5,v5,a2,v6,v6,v8,v10,v11,(slot l3 11),(slot l3 12),(slot l3 13),(slot l3 14),(slot l3 15),(slot l3 16),(slot l3 17),(slot l3 18),(slot l3 19),(slot l3 20),(slot l3 21),(slot l3 22),(slot l3 23),(slot l3 24),(slot l3 25),(slot l3 26),(slot l3 27),(slot l3 28),(slot l3 29),(slot l3 30),(slot l3 31),(slot l3 32),(slot l3 33),(slot l3 34),(slot l3 35),(slot l3 36)] h) (
 A3 v5 a2 a0 l3 N0 v4 v6 v8 v10 v11 N2 h)
theorem P3 (a0 a1 a2:Value) (h:Heap) (κ:KQ):aK prog 172 [a0,a1,a2] h κ = (
 dH (fun N0=>
 dP [undef,undef,undef,undef,undef,undef,undef,undef,undef,undef,undef,undef,undef,undef,undef,undef,undef,undef,undef,undef,undef,undef,undef,undef,undef,undef,undef,undef,undef,undef,undef,undef,undef,undef,undef,undef,a1] h fun l3 h N2=>
 ud l3 a2 N0 a0 N2 h) fun l1 h=>
 au False prog .gtr 3 false false (slot l1 36) a1 h fun v28 h=>
 κ v28 h) := by kernel_rfl
theorem P4 (a0 a1:Value) (h:Heap) (κ:KQ):aK prog 173 [a0,a1] h κ = (
 CallW prog 225 [a0] h fun v0 h=>
 CallW prog 226 [v0,a1] h fun v1 h=>
 κ v0 h) := by kernel_rfl
theorem P5 (a0:Value) (h:Heap) (κ:KQ):aK prog 174 [a0] h κ = (
 az False (Value.cells a0).toList 218 false fun o0 => an False o0 h fun b1 h=>
 κ (Value.func (.func 227) (Array.mk []) (Array.mk [(ptrTo b1)])) h) := by kernel_rfl
theorem P6 (a0 a1:Value) (h:Heap) (κ:KQ):aK prog 191 [a0,a1] h κ = (
 az False (Value.cells a0).toList 81 false fun o0 => an False o0 h fun b1 h=>
 az False [(.int .i64 0),(.int .i64 0),(.int .i64 0),(.int .i64 0),(.int .i64 0)] 83 false fun o2 => an False o2 h fun b3 h=>
 aF False 4 (ptrTo b1) h fun v4 h=>
 bD False [(0,4)] [v4] [(.int .i64 0),(.int .i64 0),(.slice none 0 0),(.int .i64 0)] fun Sx=>
 CallW prog 236 [(Value.agg (Array.mk Sx)),a1] h fun v6 h=>
 au False prog .lss 3 true false v6 (.int .i64 0) h fun v7 h=>
 ay v7 (
 bD False [] [] [(.int .i64 0),(.int .i64 0),(.int .i64 0),(.int .i64 0),(.int .i64 0)] fun Zl=>
 aL False 5 (ptrTo b3) (Value.agg (Array.mk Zl)) h fun v9 h=>
 aF False 5 (ptrTo b3) h fun v10 _ => κ (Value.tuple (Array.mk [v10,(.bool false)])) h) (
 fieldAddrB False 2 (ptrTo b1) h fun v11 h=>
 load1 False v11 h fun v12 h=>
 ax False 5 v12 v6 h fun bR h=>
 aF False 5 bR h fun bV h=>
 aL False 5 (ptrTo b3) bV h fun bY h=>
 aF False 5 (ptrTo b3) h fun v16 _ => κ (Value.tuple (Array.mk [v16,(.bool true)])) h)) := by kernel_rfl
theorem P7 (a0:Value) (h:Heap) (κ:KQ):aK prog 192 [a0] h κ = (
 az False (Value.cells a0).toList 83 false fun o0 => an False o0 h fun b1 h=>
 fieldAddrB False 4 (ptrTo b1) h fun v2 h=>
 load1 False v2 h fun v3 h=>
 au False prog .gtr 3 true false v3 (.int .i64 0) h fun v4 h=>
 κ v4 h) := by kernel_rfl
def ue (l1:List Value) (a0:Value) (N0:List Value→Heap→Prop) (h:Heap) (κ:KQ):Prop :=
 au False prog .sub 3 true false (slot l1 19) (.int .i64 1) h fun v2 h=>
 au False prog .quo 3 true false v2 (.int .i64 2) h fun v3 h=>
 au False prog .eql 3 false false v3 (slot l1 19) h fun v4 h=>
 ah (aj v4 false) (fun K5=>
 K5 a0 h) h fun v6 h=>
 ah (aj v4 false) (fun K7=>
 K7 (slot l1 19) h) h fun v8 h=>
 ah (aj v4 false) (fun K9=>
 K9 v3 h) h fun v10 h=>
 ah (aj v4 false) (fun K11=>
 CallI prog "Less" v6 [v8,v10] h K11) h fun v12 h=>
 ah (aj v4 false) (fun Y1=>
 kU False .not v12 h Y1) h fun bV h=>
 a_ False v4 (.bool true) bV h fun bY h=>
 ay bY (
 κ (Value.tuple (Array.mk [])) h) (
 CallI prog "Swap" a0 [v3,(slot l1 19)] h fun v16 h=>
 N0 [(slot l1 19),v2,v3,v3,v3,(slot l1 19),v4,v4,v6,v8,v10,v12,bV,bY,a0,v3,(slot l1 19),v16,v3,v3] h)
theorem P8 (a0 a1:Value) (h:Heap) (κ:KQ):aK prog 199 [a0,a1] h κ = (
 dP [undef,undef,undef,undef,undef,undef,undef,undef,undef,undef,undef,undef,undef,undef,undef,undef,undef,undef,undef,a1] h fun l1 h N0=>
 ue l1 a0 N0 h κ) := by kernel_rfl
def A4 (a0 a1:Value) (h:Heap) (κ:KQ):Prop :=
 aX False a0 h fun v1 h=>
 fieldAddrB False 6 v1 h fun v2 h=>
 load1 False v2 h fun v3 h=>
 cZ False prog 3 (.int .i64 0) true v3 a1 h fun v4 h=>
 av False 0 v4 h fun v5 h=>
 av False 1 v4 h fun v6 h=>
 kU False .not v6 h fun v7 h=>
 ah (aj v7 false) (fun K8=>
 K8 a0 h) h fun v9 h=>
 ah (aj v7 false) (fun nI=>
 aX False v9 h nI) h fun v11 h=>
 ah (aj v7 false) (fun lE=>
 fieldAddrB False 4 v11 h lE) h fun bR h=>
 ah (aj v7 false) (fun pK=>
 load1 False bR h pK) h fun bY h=>
 ah (aj v7 false) (fun tR=>
 tR a1 h) h fun v17 h=>
 ah (aj v7 false) (fun AH=>
 CallW prog 242 [bY,v17] h AH) h fun v19 h=>
 ah (aj v7 false) (fun II=>
 kU False .not v19 h II) h fun v21 h=>
 a_ False v7 (.bool true) v21 h fun v22 h=>
 ay v22 (
 κ (.pointer none) h) (
 aX False a0 h fun v23 h=>
 fieldAddrB False 5 v23 h fun v24 h=>
 load1 False v24 h fun v25 h=>
 ax False 1 v25 v5 h fun v26 h=>
 load1 False v26 h fun v27 h=>
 κ v27 h)
theorem P9 (a0 a1:Value) (h:Heap) (κ:KQ):aK prog 201 [a0,a1] h κ = (
 au False prog .eql 100 true false a0 (.pointer none) h fun v0 h=>
 ay v0 (
 κ (.pointer none) h) (
 A4 a0 a1 h κ)) := by kernel_rfl
def A6 (v4 a1:Value) (b1 b3:Nat) (h:Heap) (κ:KQ):Prop :=
 aX False v4 h fun v12 h=>
 aF False 4 v12 h fun bR h=>
 CallW prog 191 [bR,a1] h fun bV h=>
 av False 0 bV h fun bY h=>
 av False 1 bV h fun v16 h=>
 az False [(.int .i64 0),(.int .i64 0),(.int .i64 0),(.int .i64 0),(.int .i64 0)] 83 false fun o17 => an False o17 h fun Zm h=>
 aL False 5 (ptrTo Zm) bY h fun v19 h=>
 aI (some v4) h fun v20 h=>
 aI (aX none v20 h fun v _=>some v) h fun v21 h=>
 aI (fieldAddrB none 0 v21 h fun v _=>some v) h fun v22 h=>
 aI (aF none 2 v22 h fun v _=>some v) h fun v23 h=>
 aI (aF none 5 (ptrTo Zm) h fun v _=>some v) h fun v24 h=>
 aI (some v16) h fun v25 h=>
 aL False 2 (ptrTo b1) v23 h fun v26 h=>
 dG ((gz (aF none 5 (ptrTo Zm) h fun v _=>some v) v24) && ((gz (some v16) v25) && true)) (aL False 5 (ptrTo b3) v24 h fun v27 h=>
 dG ((gz (some v16) v25) && true) (aF False 2 (ptrTo b1) h fun v28 _ => aF False 5 (ptrTo b3) h fun oL _ => κ (Value.tuple (Array.mk [v28,oL,v25])) h))
theorem IM (a0 a1:Value) (h:Heap) (κ:KQ):aK prog 202 [a0,a1] h κ = (
 az False [(.int .i64 0),(.int .i64 0)] 36 false fun o0 => an False o0 h fun b1 h=>
 az False [(.int .i64 0),(.int .i64 0),(.int .i64 0),(.int .i64 0),(.int .i64 0)] 83 false fun o2 => an False o2 h fun b3 h=>
 CallW prog 243 [a0,a1] h fun v4 h=>
 au False prog .eql 228 true false v4 (.pointer none) h fun v5 h=>
 ay v5 (
 bD False [] [] [(.int .i64 0),(.int .i64 0)] fun Zn=>
 bD False [] [] [(.int .i64 0),(.int .i64 0),(.int .i64 0),(.int .i64 0),(.int .i64 0)] fun cs7=>
 aL False 2 (ptrTo b1) (Value.agg (Array.mk Zn)) h fun v8 h=>
 aL False 5 (ptrTo b3) (Value.agg (Array.mk cs7)) h fun v9 h=>
 aF False 2 (ptrTo b1) h fun v10 _ => aF False 5 (ptrTo b3) h fun v11 _ => κ (Value.tuple (Array.mk [v10,v11,(.bool false)])) h) (
 A6 v4 a1 b1 b3 h κ)) := by kernel_rfl
theorem P_ (a0:Value) (h:Heap) (κ:KQ):aK prog 203 [a0] h κ = (
 au False prog .eql 100 true false a0 (.pointer none) h fun v0 h=>
 ay v0 (
 κ (.int .i64 1) h) (
 κ (.int .i64 5) h)) := by kernel_rfl
def A7 (a0 v3:Value) (b1:Nat) (a2:Value) (h:Heap) (κ:KQ):Prop :=
 aI (some a0) h fun v5 h=>
 aI (aX none v5 h fun v _=>some v) h fun v6 h=>
 aI (fieldAddrB none 5 v6 h fun v _=>some v) h fun v7 h=>
 aI (load1 none v7 h fun v _=>some v) h fun v8 h=>
 aI (some v3) h fun v9 h=>
 aI (ax none 1 v8 v9 h fun v _=>some v) h fun v10 h=>
 aI (load1 none v10 h fun v _=>some v) h fun v11 h=>
 aI (aF none 2 (ptrTo b1) h fun v _=>some v) h fun v12 h=>
 aI (some a2) h fun bR h=>
 CallW prog 250 [v11,v12,bR] h fun bV h=>
 aI (av none 0 bV h fun v _=>some v) h fun bY h=>
 aI (av none 1 bV h fun v _=>some v) h fun v16 h=>
 κ (Value.tuple (Array.mk [bY,v16])) h
theorem Qa (a0 a1 a2:Value) (h:Heap) (κ:KQ):aK prog 207 [a0,a1,a2] h κ = (
 az False (Value.cells a1).toList 36 false fun o0 => an False o0 h fun b1 h=>
 aF False 2 (ptrTo b1) h fun v2 h=>
 CallW prog 44 [a0,v2] h fun v3 h=>
 au False prog .lss 3 true false v3 (.int .i64 0) h fun v4 h=>
 ay v4 (
 κ (Value.tuple (Array.mk [(.int .i64 0),(.bool false)])) h) (
 A7 a0 v3 b1 a2 h κ)) := by kernel_rfl
def A8 (v5:Value) (l8:List Value) (b1:Nat) (N7:List Value→Heap→Prop) (v9:Value) (h:Heap) (κ:KQ):Prop :=
 ax False 4 v5 (slot l8 12) h fun v10 h=>
 aF False 4 v10 h fun v11 h=>
 az False [(.int .i64 0),(.int .i64 0),(.slice none 0 0),(.int .i64 0)] 81 false fun Uf => an False Uf h fun NO h=>
 aL False 4 (ptrTo NO) v11 h fun bV h=>
 fieldAddrB False 0 (ptrTo NO) h fun bY h=>
 aF False 2 bY h fun v16 h=>
 aF False 2 (ptrTo b1) h fun v17 h=>
 au False prog .eql 36 false false v16 v17 h fun cW h=>
 ay cW (
 fieldAddrB False 2 (ptrTo NO) h fun v19 h=>
 load1 False v19 h fun v20 h=>
 κ v20 h) (
 au False prog .add 3 true false (slot l8 12) (.int .i64 1) h fun v21 h=>
 N7 [v9,v10,v11,(ptrTo NO),bY,v16,v17,cW,(slot l8 8),(slot l8 9),(slot l8 10),v21,v21] h)
theorem Qb (a0 a1:Value) (h:Heap) (κ:KQ):aK prog 209 [a0,a1] h κ = (
 az False (Value.cells a1).toList 36 false fun o0 => an False o0 h fun b1 h=>
 aX False a0 h fun v2 h=>
 fieldAddrB False 0 v2 h fun v3 h=>
 load1 False v3 h fun v4 h=>
 CallW prog 65 [v4] h fun v5 h=>
 bA False v5 h fun v6 h=>
 dP [undef,undef,undef,undef,undef,undef,undef,undef,undef,undef,(.slice none 0 0),undef,(.int .i64 0)] h fun l8 h N7=>
 au False prog .lss 3 false false (slot l8 12) v6 h fun v9 h=>
 ay v9 (
 A8 v5 l8 b1 N7 v9 h κ) (
 κ (.slice none 0 0) h)) := by kernel_rfl
theorem Qc (a0 a1:Value) (h:Heap) (κ:KQ):aK prog 211 [a0,a1] h κ = (
 aX False a0 h fun v0 h=>
 fieldAddrB False 7 v0 h fun v1 h=>
 load1 False v1 h fun v2 h=>
 aX False v2 h fun v3 h=>
 fieldAddrB False 0 v3 h fun v4 h=>
 load1 False v4 h fun v5 h=>
 CallW prog 253 [v5,a1] h fun v6 h=>
 av False 0 v6 h fun v7 h=>
 av False 1 v6 h fun v8 h=>
 aX False a0 h fun v9 h=>
 fieldAddrB False 18 v9 h fun v10 h=>
 load1 False v10 h fun v11 h=>
 bE False 3 1 [(.int .i64 0)] false v11 v7 h fun v12 h=>
 aX False a0 h fun bR h=>
 fieldAddrB False 18 bR h fun bV h=>
 aL False 1 bV v12 h fun bY h=>
 κ (Value.tuple (Array.mk [])) h) := by kernel_rfl
def mF (v20 a0 cW v4:Value) (LY:List Value→Heap→Prop) (h:Heap):Prop :=
 au False prog .eql 26 true false v20 (.int .i64 0) h fun v23 h=>
 ay v23 (
 aX False a0 h fun v24 h=>
 fieldAddrB False 6 v24 h fun v25 h=>
 load1 False v25 h fun v26 h=>
 bX False prog 3 v26 cW v4 h fun v27 h=>
 LY [v20,v23,a0,v24,v25,v26,cW,v4] h) (
 LY [v20,v23,undef,undef,undef,undef,undef,undef] h)
def A9 (a0 v4:Value) (b1:Nat) (a2 a3:Value) (h:Heap) (κ:KQ):Prop :=
 aI (some a0) h fun v6 h=>
 aI (aX none v6 h fun v _=>some v) h fun v7 h=>
 aI (fieldAddrB none 5 v7 h fun v _=>some v) h fun v8 h=>
 aI (load1 none v8 h fun v _=>some v) h fun v9 h=>
 aI (some v4) h fun v10 h=>
 aI (ax none 1 v9 v10 h fun v _=>some v) h fun v11 h=>
 aI (load1 none v11 h fun v _=>some v) h fun v12 h=>
 aI (aF none 2 (ptrTo b1) h fun v _=>some v) h fun bR h=>
 aI (some a2) h fun bV h=>
 aI (some a3) h fun bY h=>
 CallW prog 255 [v12,bR,bV,bY] h fun v16 h=>
 aI (some v16) h fun v17 h=>
 aI (av none 0 v17 h fun v _=>some v) h fun cW h=>
 aI (av none 1 v17 h fun v _=>some v) h fun v19 h=>
 aI (av none 2 v17 h fun v _=>some v) h fun v20 h=>
 dG ((gz (av none 1 v17 h fun v _=>some v) v19) && ((gz (av none 2 v17 h fun v _=>some v) v20) && true)) (dG ((gz (av none 2 v17 h fun v _=>some v) v20) && true) (dH (fun LY=>
 mF v20 a0 cW v4 LY h) fun yP h=>
 κ (Value.tuple (Array.mk [cW,v19,v20])) h))
theorem Qd (a0 a1 a2 a3:Value) (h:Heap) (κ:KQ):aK prog 213 [a0,a1,a2,a3] h κ = (
 az False (Value.cells a1).toList 36 false fun o0 => an False o0 h fun b1 h=>
 au False prog .eql 100 true false a0 (.pointer none) h fun v2 h=>
 ay v2 (
 κ (Value.tuple (Array.mk [(.int .i64 0),(.bool false),(.int .i64 1)])) h) (
 aF False 2 (ptrTo b1) h fun v3 h=>
 CallW prog 44 [a0,v3] h fun v4 h=>
 au False prog .lss 3 true false v4 (.int .i64 0) h fun v5 h=>
 ay v5 (
 κ (Value.tuple (Array.mk [(.int .i64 0),(.bool false),(.int .i64 2)])) h) (
 A9 a0 v4 b1 a2 a3 h κ))) := by kernel_rfl
def uf (v0 a0 a1 a2:Value) (h:Heap) (κ:KQ):Prop :=
 au False prog .eql 182 true false v0 (.pointer none) h fun v17 h=>
 ay v17 (
 CallW prog 203 [a0] h fun cW h=>
 κ (Value.tuple (Array.mk [(.bool false),cW])) h) (
 CallW prog 256 [v0,a1,a2] h fun v19 h=>
 av False 0 v19 h fun v20 h=>
 av False 1 v19 h fun v21 h=>
 κ (Value.tuple (Array.mk [v20,v21])) h)
theorem Qe (a0 a1 a2:Value) (h:Heap) (κ:KQ):aK prog 214 [a0,a1,a2] h κ = (
 CallW prog 201 [a0,a1] h fun v0 h=>
 au False prog .neq 100 true false a0 (.pointer none) h fun v1 h=>
 ah (aj v1 true) (fun K2=>
 K2 a2 h) h fun v3 h=>
 ah (aj v1 true) (fun K4=>
 au False prog .eql 37 true false v3 (.int .i64 0) h K4) h fun v5 h=>
 ah (aj v1 true) (fun K6=>
 K6 v5 h) h fun v7 h=>
 ah (aj v7 false) (fun K8=>
 K8 a2 h) h fun v9 h=>
 ah (aj v7 false) (fun nI=>
 CallW prog 73 [v9] h nI) h fun v11 h=>
 ah (aj v7 false) (fun lE=>
 kU False .not v11 h lE) h fun bR h=>
 ah (aj v1 true) (fun pK=>
 a_ False v7 (.bool true) bR h pK) h fun bY h=>
 a_ False v1 bY (.bool false) h fun v16 h=>
 ay v16 (
 κ (Value.tuple (Array.mk [(.bool false),(.int .i64 2)])) h) (
 uf v0 a0 a1 a2 h κ)) := by kernel_rfl
theorem Qf (a0:Value) (h:Heap) (κ:KQ):aK prog 225 [a0] h κ = (
 CallW prog 262 [(.slice none 0 0),a0] h fun v0 h=>
 κ v0 h) := by kernel_rfl
theorem Qg (a0 a1:Value) (h:Heap) (κ:KQ):aK prog 226 [a0,a1] h κ = (
 bA False a0 h fun v0 h=>
 gU False .u64 v0 h fun v1 h=>
 CallW prog 132 [v1] h fun v2 h=>
 CallW prog 263 [a0,(.int .i64 0),v0,v2,a1] h fun v3 h=>
 κ (Value.tuple (Array.mk [])) h) := by kernel_rfl
theorem Qh (a0 a1:Value) (h:Heap) (κ:KQ):aK prog 236 [a0,a1] h κ = (
 az False (Value.cells a0).toList 305 false fun o0 => an False o0 h fun b1 h=>
 az False (Value.cells a1).toList 3 false fun o2 => an False o2 h fun b3 h=>
 fieldAddrB False 0 (ptrTo b1) h fun v4 h=>
 fieldAddrB False 2 v4 h fun v5 h=>
 load1 False v5 h fun v6 h=>
 CallW prog 268 [v6,(Value.func (.func 269) (Array.mk []) (Array.mk [(ptrTo b3)]))] h fun v7 h=>
 κ v7 h) := by kernel_rfl
theorem Qi (a0:Value) (h:Heap) (κ:KQ):aK prog 237 [a0] h κ = (
 az False (Value.cells a0).toList 83 false fun o0 => an False o0 h fun b1 h=>
 fieldAddrB False 2 (ptrTo b1) h fun v2 h=>
 load1 False v2 h fun v3 h=>
 au False prog .neq 37 true false v3 (.int .i64 0) h fun v4 h=>
 κ v4 h) := by kernel_rfl
theorem Qj (a0:Value) (h:Heap) (κ:KQ):aK prog 238 [a0] h κ = (
 az False (Value.cells a0).toList 83 false fun o0 => an False o0 h fun b1 h=>
 aF False 5 (ptrTo b1) h fun v2 h=>
 CallW prog 237 [v2] h fun v3 h=>
 ah (aj v3 true) (fun K4=>
 aF False 5 (ptrTo b1) h K4) h fun v5 h=>
 ah (aj v3 true) (fun K6=>
 CallW prog 192 [v5] h K6) h fun v7 h=>
 a_ False v3 v7 (.bool false) h fun v8 h=>
 κ v8 h) := by kernel_rfl
theorem Qk (a0 a1:Value) (h:Heap) (κ:KQ):aK prog 242 [a0,a1] h κ = (
 au False prog .neq 144 true false a0 (.pointer none) h fun v0 h=>
 ah (aj v0 true) (fun K1=>
 K1 a1 h) h fun v2 h=>
 ah (aj v0 true) (fun K3=>
 au False prog .geq 3 true false v2 (.int .i64 0) h K3) h fun v4 h=>
 a_ False v0 v4 (.bool false) h fun v5 h=>
 ah (aj v5 true) (fun K6=>
 K6 a1 h) h fun v7 h=>
 ah (aj v5 true) (fun K8=>
 K8 a0 h) h fun v9 h=>
 ah (aj v5 true) (fun nI=>
 aX False v9 h nI) h fun v11 h=>
 ah (aj v5 true) (fun lE=>
 fieldAddrB False 1 v11 h lE) h fun bR h=>
 ah (aj v5 true) (fun pK=>
 load1 False bR h pK) h fun bY h=>
 ah (aj v5 true) (fun tR=>
 bA False bY h tR) h fun v17 h=>
 ah (aj v5 true) (fun AH=>
 au False prog .lss 3 false false v7 v17 h AH) h fun v19 h=>
 a_ False v5 v19 (.bool false) h fun v20 h=>
 ah (aj v20 true) (fun IC=>
 IC a0 h) h fun v22 h=>
 ah (aj v20 true) (fun ID=>
 aX False v22 h ID) h fun v24 h=>
 ah (aj v20 true) (fun UP=>
 fieldAddrB False 1 v24 h UP) h fun v26 h=>
 ah (aj v20 true) (fun Ql=>
 load1 False v26 h Ql) h fun v28 h=>
 ah (aj v20 true) (fun Qm=>
 Qm a1 h) h fun v30 h=>
 ah (aj v20 true) (fun Pw=>
 ax False 1 v28 v30 h Pw) h fun v32 h=>
 ah (aj v20 true) (fun Pv=>
 load1 False v32 h Pv) h fun nv h=>
 a_ False v20 nv (.bool false) h fun v35 h=>
 κ v35 h) := by kernel_rfl
def A_ (v4 a1:Value) (N5:List Value→Heap→Prop) (v7 v8:Value) (l6:List Value) (h:Heap) (κ:KQ):Prop :=
 kY False v4 h fun v9 h=>
 av False 1 v9 h fun v10 h=>
 aX False v10 h fun v11 h=>
 aF False 4 v11 h fun v12 h=>
 CallW prog 191 [v12,a1] h fun bR h=>
 av False 0 bR h fun bV h=>
 av False 1 bR h fun bY h=>
 az False [(.int .i64 0),(.int .i64 0),(.int .i64 0),(.int .i64 0),(.int .i64 0)] 83 false fun o16 => an False o16 h fun b17 h=>
 aL False 5 (ptrTo b17) bV h fun cW h=>
 ay bY (
 κ v10 h) (
 N5 [v7,v8,v9,v10,v10,v10,v11,v12,a1,bR,bR,bV,bY,(ptrTo b17),bY,bY,(slot l6 16),(slot l6 17)] h)
def Ba (a0 a1:Value) (h:Heap) (κ:KQ):Prop :=
 aX False a0 h fun v1 h=>
 fieldAddrB False 2 v1 h fun v2 h=>
 load1 False v2 h fun v3 h=>
 kX False v3 h fun v4 h=>
 dP [undef,undef,undef,undef,undef,undef,undef,undef,undef,undef,undef,undef,undef,undef,undef,undef,undef,(.pointer none)] h fun l6 h N5=>
 nM False And v4 h fun v7 h=>
 av False 0 v7 h fun v8 h=>
 ay v8 (
 A_ v4 a1 N5 v7 v8 l6 h κ) (
 κ (.pointer none) h)
theorem IN (a0 a1:Value) (h:Heap) (κ:KQ):aK prog 243 [a0,a1] h κ = (
 au False prog .eql 182 true false a0 (.pointer none) h fun v0 h=>
 ay v0 (
 κ (.pointer none) h) (
 Ba a0 a1 h κ)) := by kernel_rfl
theorem Qn (a0:Value) (h:Heap) (κ:KQ):aK prog 244 [a0] h κ = (
 au False prog .eql 182 true false a0 (.pointer none) h fun v0 h=>
 ay v0 (
 κ (.int .i64 1) h) (
 κ (.int .i64 5) h)) := by kernel_rfl
def Bb (a0 a1:Value) (h:Heap) (κ:KQ):Prop :=
 aX False a0 h fun v3 h=>
 fieldAddrB False 1 v3 h fun v4 h=>
 load1 False v4 h fun v5 h=>
 ax False 1 v5 a1 h fun v6 h=>
 aL False 1 v6 (.bool false) h fun v7 h=>
 aX False a0 h fun v8 h=>
 fieldAddrB False 0 v8 h fun v9 h=>
 CallW prog 146 [(Value.iface 240 v9),(Value.iface 3 a1)] h fun v10 h=>
 κ (.int .i64 0) h
theorem Qo (a0 a1:Value) (h:Heap) (κ:KQ):aK prog 246 [a0,a1] h κ = (
 au False prog .eql 144 true false a0 (.pointer none) h fun v0 h=>
 ay v0 (
 κ (.int .i64 1) h) (
 CallW prog 242 [a0,a1] h fun v1 h=>
 kU False .not v1 h fun v2 h=>
 ay v2 (
 κ (.int .i64 5) h) (
 Bb a0 a1 h κ))) := by kernel_rfl
def Bc (a0:Value) (b1:Nat) (N7:List Value→Heap→Prop) (v9 v10 v11 v12:Value) (h:Heap):Prop :=
 aI (some a0) h fun bR h=>
 aI (aX none bR h fun v _=>some v) h fun bV h=>
 aI (fieldAddrB none 2 bV h fun v _=>some v) h fun bY h=>
 aI (load1 none bY h fun v _=>some v) h fun v16 h=>
 aI (fieldAddrB none 0 (ptrTo b1) h fun v _=>some v) h fun v17 h=>
 aI (aF none 2 v17 h fun v _=>some v) h fun cW h=>
 jI False prog 36 v16 cW h fun v19 h=>
 N7 [v9,v10,v11,v12,bR,bV,bY,v16,v17,cW,undef,undef,undef,undef,undef,undef] h
def Bd (a0:Value) (b1:Nat) (N7:List Value→Heap→Prop) (v9 v10 v11 v12:Value) (h:Heap):Prop :=
 aI (some a0) h fun v20 h=>
 aI (aX none v20 h fun v _=>some v) h fun v21 h=>
 aI (fieldAddrB none 2 v21 h fun v _=>some v) h fun v22 h=>
 aI (load1 none v22 h fun v _=>some v) h fun v23 h=>
 aI (fieldAddrB none 0 (ptrTo b1) h fun v _=>some v) h fun v24 h=>
 aI (aF none 2 v24 h fun v _=>some v) h fun v25 h=>
 bX False prog 36 v23 v25 (ptrTo b1) h fun v26 h=>
 N7 [v9,v10,v11,v12,undef,undef,undef,undef,undef,undef,v20,v21,v22,v23,v24,v25] h
def ug (b1:Nat) (a0:Value) (N7:List Value→Heap→Prop) (h:Heap):Prop :=
 fieldAddrB False 2 (ptrTo b1) h fun v9 h=>
 load1 False v9 h fun v10 h=>
 bA False v10 h fun v11 h=>
 au False prog .eql 3 true false v11 (.int .i64 0) h fun v12 h=>
 ay v12 (
 Bc a0 b1 N7 v9 v10 v11 v12 h) (
 Bd a0 b1 N7 v9 v10 v11 v12 h)
theorem Qp (a0 a1:Value) (h:Heap) (κ:KQ):aK prog 247 [a0,a1] h κ = (
 az False (Value.cells a1).toList 81 false fun o0 => an False o0 h fun b1 h=>
 aF False 4 (ptrTo b1) h fun v2 h=>
 CallW prog 289 [v2] h fun v3 h=>
 av False 0 v3 h fun v4 h=>
 av False 1 v3 h fun v5 h=>
 aL False 4 (ptrTo b1) v4 h fun v6 h=>
 dH (fun N7=>
 ug b1 a0 N7 h) fun l8 h=>
 κ v5 h) := by kernel_rfl
def Be (v12 cW:Value) (h:Heap) (κ:KQ):Prop :=
 aX False v12 h fun v20 h=>
 fieldAddrB False 2 v20 h fun v21 h=>
 load1 False v21 h fun v22 h=>
 ax False 5 v22 cW h fun v23 h=>
 fieldAddrB False 0 v23 h fun v24 h=>
 load1 False v24 h fun v25 h=>
 κ (Value.tuple (Array.mk [v25,(.bool true)])) h
def Bf (v12:Value) (b3:Nat) (h:Heap) (κ:KQ):Prop :=
 aX False v12 h fun bY h=>
 fieldAddrB False 2 bY h fun v16 h=>
 load1 False v16 h fun v17 h=>
 CallW prog 268 [v17,(Value.func (.func 290) (Array.mk []) (Array.mk [(ptrTo b3)]))] h fun cW h=>
 au False prog .lss 3 true false cW (.int .i64 0) h fun v19 h=>
 ay v19 (
 κ (Value.tuple (Array.mk [(.int .i64 0),(.bool false)])) h) (
 Be v12 cW h κ)
def uh (a0:Value) (b1 b3:Nat) (h:Heap) (κ:KQ):Prop :=
 aI (some a0) h fun v5 h=>
 aI (aX none v5 h fun v _=>some v) h fun v6 h=>
 aI (fieldAddrB none 2 v6 h fun v _=>some v) h fun v7 h=>
 aI (load1 none v7 h fun v _=>some v) h fun v8 h=>
 aI (aF none 2 (ptrTo b1) h fun v _=>some v) h fun v9 h=>
 aI (cZ none prog 36 (.pointer none) true v8 v9 h fun v _=>some v) h fun v10 h=>
 aI (some v10) h fun v11 h=>
 aI (av none 0 v11 h fun v _=>some v) h fun v12 h=>
 aI (av none 1 v11 h fun v _=>some v) h fun bR h=>
 dG ((gz (av none 1 v11 h fun v _=>some v) bR) && true) (kU False .not bR h fun bV h=>
 ay bV (
 κ (Value.tuple (Array.mk [(.int .i64 0),(.bool false)])) h) (
 Bf v12 b3 h κ))
theorem Qq (a0 a1 a2:Value) (h:Heap) (κ:KQ):aK prog 250 [a0,a1,a2] h κ = (
 az False (Value.cells a1).toList 36 false fun o0 => an False o0 h fun b1 h=>
 az False (Value.cells a2).toList 3 false fun o2 => an False o2 h fun b3 h=>
 au False prog .eql 182 true false a0 (.pointer none) h fun v4 h=>
 ay v4 (
 κ (Value.tuple (Array.mk [(.int .i64 0),(.bool false)])) h) (
 uh a0 b1 b3 h κ)) := by kernel_rfl
theorem Qr (a0 a1:Value) (h:Heap) (κ:KQ):aK prog 253 [a0,a1] h κ = (
 CallW prog 201 [a0,a1] h fun v0 h=>
 au False prog .eql 182 true false v0 (.pointer none) h fun v1 h=>
 ay v1 (
 CallW prog 203 [a0] h fun v2 h=>
 κ (Value.tuple (Array.mk [(.slice none 0 0),v2])) h) (
 CallW prog 291 [v0,a1] h fun v3 h=>
 av False 0 v3 h fun v4 h=>
 av False 1 v3 h fun v5 h=>
 κ (Value.tuple (Array.mk [v4,v5])) h)) := by kernel_rfl
def uj (a0:Value) (b1:Nat) (Xk:List Value→Heap→Prop) (v23 v26:Value) (h:Heap) (κ:KQ):Prop :=
 aI (some a0) h fun v27 h=>
 aI (aX none v27 h fun v _=>some v) h fun v28 h=>
 aI (fieldAddrB none 2 v28 h fun v _=>some v) h fun oL h=>
 aI (load1 none oL h fun v _=>some v) h fun v30 h=>
 aI (kW none v30 h fun v _=>some v) h fun v31 h=>
 aI (some a0) h fun v32 h=>
 aI (aX none v32 h fun v _=>some v) h fun v33 h=>
 aI (fieldAddrB none 0 v33 h fun v _=>some v) h fun nv h=>
 aI (load1 none nv h fun v _=>some v) h fun v35 h=>
 aI (au none prog .geq 3 false false v31 v35 h fun v _=>some v) h fun pL h=>
 ay pL (
 κ (Value.tuple (Array.mk [(.int .i64 0),(.bool false),(.int .i64 8)])) h) (
 aF False 2 (ptrTo b1) h fun v37 h=>
 bD False [(0,2)] [v37] [(.int .i64 0),(.int .i64 0),(.slice none 0 0),(.int .i64 0)] fun UQ=>
 az False (Value.cells (Value.agg (Array.mk UQ))).toList 81 false fun o39 => an False o39 h fun Pe h=>
 Xk [v23,v26,v27,v28,oL,v30,v31,v32,v33,nv,v35,pL,(.int .i64 0),(.bool false),(.int .i64 0),v37,(Value.agg (Array.mk UQ)),(ptrTo Pe),(ptrTo Pe)] h)
def Bg (UR:List Value) (v45 a2 a3 a0:Value) (h:Heap) (κ:KQ):Prop :=
 aX False (slot UR 18) h fun Ch h=>
 aF False 4 Ch h fun v49 h=>
 CallW prog 293 [v49,v45,a2,a3] h fun v50 h=>
 av False 0 v50 h fun v51 h=>
 av False 1 v50 h fun rq h=>
 av False 2 v50 h fun v53 h=>
 az False [(.int .i64 0),(.int .i64 0),(.slice none 0 0),(.int .i64 0)] 81 false fun o54 => an False o54 h fun b55 h=>
 aL False 4 (ptrTo b55) v51 h fun tO h=>
 aF False 4 (ptrTo b55) h fun qG h=>
 CallW prog 247 [a0,qG] h fun v58 h=>
 κ (Value.tuple (Array.mk [v45,rq,(.int .i64 0)])) h
def uk (a0:Value) (UR:List Value) (a2 a3:Value) (h:Heap) (κ:KQ):Prop :=
 aX False a0 h fun v41 h=>
 fieldAddrB False 1 v41 h fun vC h=>
 load1 False vC h fun pH h=>
 CallW prog 292 [pH] h fun v44 h=>
 av False 0 v44 h fun v45 h=>
 av False 1 v44 h fun v46 h=>
 au False prog .neq 26 true false v46 (.int .i64 0) h fun vE h=>
 ay vE (
 κ (Value.tuple (Array.mk [(.int .i64 0),(.bool false),(.int .i64 8)])) h) (
 Bg UR v45 a2 a3 a0 h κ)
def um (a0:Value) (b1:Nat) (a2 a3:Value) (h:Heap) (κ:KQ):Prop :=
 aI (some a0) h fun bY h=>
 aI (aX none bY h fun v _=>some v) h fun v16 h=>
 aI (fieldAddrB none 2 v16 h fun v _=>some v) h fun v17 h=>
 aI (load1 none v17 h fun v _=>some v) h fun cW h=>
 aI (aF none 2 (ptrTo b1) h fun v _=>some v) h fun v19 h=>
 aI (cZ none prog 36 (.pointer none) true cW v19 h fun v _=>some v) h fun v20 h=>
 aI (some v20) h fun v21 h=>
 aI (av none 0 v21 h fun v _=>some v) h fun v22 h=>
 aI (av none 1 v21 h fun v _=>some v) h fun v23 h=>
 dG ((gz (av none 1 v21 h fun v _=>some v) v23) && true) (dH (fun Xk=>
 kU False .not v23 h fun v26 h=>
 ay v26 (
 uj a0 b1 Xk v23 v26 h κ) (
 Xk [v23,v26,undef,undef,undef,undef,undef,undef,undef,undef,undef,undef,(.int .i64 0),(.bool false),(.int .i64 0),undef,undef,undef,v22] h)) fun UR h=>
 uk a0 UR a2 a3 h κ)
def Bh (b1:Nat) (a0 a2 a3:Value) (h:Heap) (κ:KQ):Prop :=
 aF False 2 (ptrTo b1) h fun v11 h=>
 CallW prog 250 [a0,v11,a2] h fun v12 h=>
 av False 0 v12 h fun bR h=>
 av False 1 v12 h fun bV h=>
 ay bV (
 κ (Value.tuple (Array.mk [(.int .i64 0),(.bool false),(.int .i64 4)])) h) (
 um a0 b1 a2 a3 h κ)
def Bi (a3:Value) (b1:Nat) (a0 a2:Value) (h:Heap) (κ:KQ):Prop :=
 au False prog .eql 37 true false a3 (.int .i64 0) h fun v3 h=>
 ah (aj v3 false) (fun K4=>
 K4 a3 h) h fun v5 h=>
 ah (aj v3 false) (fun K6=>
 CallW prog 73 [v5] h K6) h fun v7 h=>
 ah (aj v3 false) (fun K8=>
 kU False .not v7 h K8) h fun v9 h=>
 a_ False v3 (.bool true) v9 h fun v10 h=>
 ay v10 (
 κ (Value.tuple (Array.mk [(.int .i64 0),(.bool false),(.int .i64 2)])) h) (
 Bh b1 a0 a2 a3 h κ)
theorem Qs (a0 a1 a2 a3:Value) (h:Heap) (κ:KQ):aK prog 255 [a0,a1,a2,a3] h κ = (
 az False (Value.cells a1).toList 36 false fun o0 => an False o0 h fun b1 h=>
 au False prog .eql 182 true false a0 (.pointer none) h fun v2 h=>
 ay v2 (
 κ (Value.tuple (Array.mk [(.int .i64 0),(.bool false),(.int .i64 1)])) h) (
 Bi a3 b1 a0 a2 h κ)) := by kernel_rfl
def uo (l3:List Value) (a1 a2 a0:Value) (h:Heap) (κ:KQ):Prop :=
 aX False (slot l3 4) h fun v8 h=>
 aF False 4 v8 h fun v9 h=>
 CallW prog 294 [v9,a1,a2] h fun v10 h=>
 av False 0 v10 h fun v11 h=>
 av False 1 v10 h fun v12 h=>
 av False 2 v10 h fun bR h=>
 az False [(.int .i64 0),(.int .i64 0),(.slice none 0 0),(.int .i64 0)] 81 false fun Zd => an False Zd h fun Xi h=>
 aL False 4 (ptrTo Xi) v11 h fun v16 h=>
 au False prog .neq 26 true false bR (.int .i64 0) h fun v17 h=>
 ay v17 (
 κ (Value.tuple (Array.mk [(.bool false),bR])) h) (
 aF False 4 (ptrTo Xi) h fun cW h=>
 CallW prog 247 [a0,cW] h fun v19 h=>
 κ (Value.tuple (Array.mk [v12,(.int .i64 0)])) h)
def Bj (a0 a1 a2:Value) (h:Heap) (κ:KQ):Prop :=
 CallW prog 243 [a0,a1] h fun v1 h=>
 dH (fun N2=>
 au False prog .eql 228 true false v1 (.pointer none) h fun v4 h=>
 ay v4 (
 bD False [] [] [(.int .i64 0),(.int .i64 0),(.slice none 0 0),(.int .i64 0)] fun Sx=>
 az False (Value.cells (Value.agg (Array.mk Sx))).toList 81 false fun o6 => an False o6 h fun b7 h=>
 N2 [v1,v4,(Value.agg (Array.mk Sx)),(ptrTo b7),(ptrTo b7)] h) (
 N2 [v1,v4,undef,undef,v1] h)) fun l3 h=>
 uo l3 a1 a2 a0 h κ
theorem Qt (a0 a1 a2:Value) (h:Heap) (κ:KQ):aK prog 256 [a0,a1,a2] h κ = (
 au False prog .eql 182 true false a0 (.pointer none) h fun v0 h=>
 ay v0 (
 κ (Value.tuple (Array.mk [(.bool false),(.int .i64 1)])) h) (
 Bj a0 a1 a2 h κ)) := by kernel_rfl
def IP (a0:Value) (l1:List Value) (gP:List Value) (a4 v2:Value) (l8:List Value) (N0:List Value→Heap→Prop) (v3 v5 v12 bR bV:Value) (j_:List Value) (v33 nv v35 v37 v39 v41 pH v45 vE v49 v51 v53 v55 qG v59 yQ AD:Value) (h:Heap):Prop :=
 CallW prog 304 [a0,(slot l1 127),(slot l1 140),(slot gP 13),a4] h fun v64 h=>
 av False 0 v64 h fun jR h=>
 av False 1 v64 h fun v66 h=>
 au False prog .sub 3 false false jR (slot l1 127) h fun v67 h=>
 au False prog .sub 3 false false (slot l1 140) jR h fun qE h=>
 au False prog .quo 3 true false v2 (.int .i64 8) h fun r_ h=>
 au False prog .lss 3 false false v67 qE h fun v70 h=>
 ay v70 (
 au False prog .geq 3 false false v67 r_ h fun rm h=>
 CallW prog 263 [a0,(slot l1 127),jR,(slot l8 9),a4] h fun v72 h=>
 au False prog .add 3 true false jR (.int .i64 1) h fun GF h=>
 N0 [(slot l1 140),(slot l1 127),v2,v2,v2,v3,(slot l1 6),(slot l1 7),(slot l1 8),(slot l1 9),(slot l1 10),(slot l1 27),v5,(slot l1 13),(slot l1 14),(slot l1 15),(slot l1 16),(slot l1 17),(slot l8 0),(slot l8 1),(slot l8 2),(slot l8 3),(slot l8 4),(slot l8 5),(slot l8 6),(slot l8 7),(slot l8 8),(slot l8 9),a0,(slot l1 127),(slot l1 140),a4,v12,v12,bR,bV,(slot gP 0),(slot gP 1),(slot gP 2),(slot gP 3),(slot gP 4),(slot gP 5),(slot gP 6),(slot gP 7),(slot gP 8),(slot gP 9),(slot gP 10),(slot gP 11),(slot gP 12),(slot gP 13),(slot gP 14),(slot j_ 0),(slot j_ 1),(slot j_ 2),(slot j_ 3),(slot j_ 4),(slot j_ 5),(slot j_ 6),(slot j_ 7),(slot j_ 8),(slot j_ 9),(slot j_ 10),(slot j_ 11),(slot j_ 12),v33,nv,v35,v37,v39,v41,pH,v45,vE,v49,v51,v53,v55,qG,v59,yQ,AD,(slot l1 81),(slot l1 82),(slot l1 83),(slot l1 84),(slot l1 85),(slot l1 86),(slot l1 87),(slot l1 88),a0,(slot l1 127),(slot l1 140),(slot gP 13),a4,v64,v64,jR,v66,jR,v66,v66,v66,jR,(slot l1 127),v67,(slot l1 140),jR,qE,v67,qE,v2,r_,r_,v67,qE,v70,v67,r_,rm,a0,(slot l1 127),jR,(slot l8 9),a4,v72,jR,GF,GF,(slot l1 128),(slot l1 129),(slot l1 130),rm,(slot l1 132),(slot l1 133),(slot l1 134),(slot l1 135),(slot l1 136),(slot l1 137),(slot l1 138),(slot l1 139),(slot l1 140)] h) (
 au False prog .geq 3 false false qE r_ h fun yI h=>
 au False prog .add 3 true false jR (.int .i64 1) h fun v75 h=>
 CallW prog 263 [a0,v75,(slot l1 140),(slot l8 9),a4] h fun v76 h=>
 N0 [(slot l1 140),(slot l1 127),v2,v2,v2,v3,(slot l1 6),(slot l1 7),(slot l1 8),(slot l1 9),(slot l1 10),(slot l1 27),v5,(slot l1 13),(slot l1 14),(slot l1 15),(slot l1 16),(slot l1 17),(slot l8 0),(slot l8 1),(slot l8 2),(slot l8 3),(slot l8 4),(slot l8 5),(slot l8 6),(slot l8 7),(slot l8 8),(slot l8 9),a0,(slot l1 127),(slot l1 140),a4,v12,v12,bR,bV,(slot gP 0),(slot gP 1),(slot gP 2),(slot gP 3),(slot gP 4),(slot gP 5),(slot gP 6),(slot gP 7),(slot gP 8),(slot gP 9),(slot gP 10),(slot gP 11),(slot gP 12),(slot gP 13),(slot gP 14),(slot j_ 0),(slot j_ 1),(slot j_ 2),(slot j_ 3),(slot j_ 4),(slot j_ 5),(slot j_ 6),(slot j_ 7),(slot j_ 8),(slot j_ 9),(slot j_ 10),(slot j_ 11),(slot j_ 12),v33,nv,v35,v37,v39,v41,pH,v45,vE,v49,v51,v53,v55,qG,v59,yQ,AD,(slot l1 81),(slot l1 82),(slot l1 83),(slot l1 84),(slot l1 85),(slot l1 86),(slot l1 87),(slot l1 88),a0,(slot l1 127),(slot l1 140),(slot gP 13),a4,v64,v64,jR,v66,jR,v66,v66,v66,jR,(slot l1 127),v67,(slot l1 140),jR,qE,v67,qE,v2,r_,r_,v67,qE,v70,(slot l1 116),(slot l1 117),(slot l1 118),(slot l1 119),(slot l1 120),(slot l1 121),(slot l1 122),(slot l1 123),(slot l1 124),(slot l1 125),(slot l1 126),(slot l1 127),qE,r_,yI,yI,a0,jR,v75,(slot l1 140),(slot l8 9),a4,v76,jR,jR] h)
def IQ (l1:List Value) (gP:List Value) (a0 a4:Value) (Xl:List Value→Heap→Prop) (h:Heap) (κ:KQ):Prop :=
 ah (aj (slot l1 131) true) (fun LU=>
 LU (slot l1 101) h) h fun v25 h=>
 a_ False (slot l1 131) v25 (.bool false) h fun v26 h=>
 ah (aj v26 true) (fun Ql=>
 Ql (slot gP 14) h) h fun v28 h=>
 ah (aj v26 true) (fun Qm=>
 au False prog .eql 245 true false v28 (.int .i64 1) h Qm) h fun v30 h=>
 a_ False v26 v30 (.bool false) h fun v31 h=>
 ay v31 (
 CallW prog 302 [a0,(slot l1 127),(slot l1 140),a4] h fun v32 h=>
 ay v32 (
 κ (Value.tuple (Array.mk [])) h) (
 Xl [(slot l1 131),(slot l1 131),v25,v26,v26,v28,v30,v31,a0,(slot l1 127),(slot l1 140),a4,v32] h)) (
 Xl [(slot l1 131),(slot l1 131),v25,v26,v26,v28,v30,v31,(slot l1 59),(slot l1 60),(slot l1 61),(slot l1 62),(slot l1 63)] h)
def IS (l1:List Value) (a4 a0:Value) (gP:List Value) (N0:List Value→Heap→Prop) (v2 v3 v5:Value) (l8:List Value) (v12 bR bV:Value) (j_:List Value) (h:Heap):Prop :=
 aI (some (slot l1 127)) h fun v33 h=>
 aI (au none prog .gtr 3 true false v33 (.int .i64 0) h fun v _=>some v) h fun nv h=>
 aI (some nv) h fun v35 h=>
 ah (aj v35 true) (fun K36=>
 aI (some a4) h K36) h fun v37 h=>
 ah (aj v35 true) (fun K38=>
 aI (some a0) h K38) h fun v39 h=>
 ah (aj v35 true) (fun T0=>
 aI (some (slot l1 127)) h T0) h fun v41 h=>
 ah (aj v35 true) (fun T1=>
 aI (au none prog .sub 3 true false v41 (.int .i64 1) h fun v _=>some v) h T1) h fun pH h=>
 ah (aj v35 true) (fun T2=>
 aI (ax none 2 v39 pH h fun v _=>some v) h T2) h fun v45 h=>
 ah (aj v35 true) (fun K46=>
 aI (aF none 2 v45 h fun v _=>some v) h K46) h fun vE h=>
 ah (aj v35 true) (fun K48=>
 aI (some a0) h K48) h fun v49 h=>
 ah (aj v35 true) (fun Zo=>
 aI (some (slot gP 13)) h Zo) h fun v51 h=>
 ah (aj v35 true) (fun Zp=>
 aI (ax none 2 v49 v51 h fun v _=>some v) h Zp) h fun v53 h=>
 ah (aj v35 true) (fun Zq=>
 aI (aF none 2 v53 h fun v _=>some v) h Zq) h fun v55 h=>
 ah (aj v35 true) (fun Zr=>
 iE prog v37 [vE,v55] h Zr) h fun qG h=>
 ah (aj v35 true) (fun Zs=>
 aI (au none prog .lss 3 true false qG (.int .i64 0) h fun v _=>some v) h Zs) h fun v59 h=>
 ah (aj v35 true) (fun Zt=>
 aI (kU none .not v59 h fun v _=>some v) h Zt) h fun yQ h=>
 aI (a_ none v35 yQ (.bool false) h fun v _=>some v) h fun AD h=>
 ay AD (
 CallW prog 303 [a0,(slot l1 127),(slot l1 140),(slot gP 13),a4] h fun vB h=>
 N0 [(slot l1 140),(slot l1 127),v2,v2,v2,v3,(slot l1 6),(slot l1 7),(slot l1 8),(slot l1 9),(slot l1 10),(slot l1 27),v5,(slot l1 13),(slot l1 14),(slot l1 15),(slot l1 16),(slot l1 17),(slot l8 0),(slot l8 1),(slot l8 2),(slot l8 3),(slot l8 4),(slot l8 5),(slot l8 6),(slot l8 7),(slot l8 8),(slot l8 9),a0,(slot l1 127),(slot l1 140),a4,v12,v12,bR,bV,(slot gP 0),(slot gP 1),(slot gP 2),(slot gP 3),(slot gP 4),(slot gP 5),(slot gP 6),(slot gP 7),(slot gP 8),(slot gP 9),(slot gP 10),(slot gP 11),(slot gP 12),(slot gP 13),(slot gP 14),(slot j_ 0),(slot j_ 1),(slot j_ 2),(slot j_ 3),(slot j_ 4),(slot j_ 5),(slot j_ 6),(slot j_ 7),(slot j_ 8),(slot j_ 9),(slot j_ 10),(slot j_ 11),(slot j_ 12),v33,nv,v35,v37,v39,v41,pH,v45,vE,v49,v51,v53,v55,qG,v59,yQ,AD,a0,(slot l1 127),(slot l1 140),(slot gP 13),a4,vB,vB,vB,(slot l1 89),(slot l1 90),(slot l1 91),(slot l1 92),(slot l1 93),(slot l1 94),(slot l1 95),(slot l1 96),(slot l1 97),(slot l1 98),(slot l1 99),(slot l1 100),(slot l1 101),(slot l1 102),(slot l1 103),(slot l1 104),(slot l1 105),(slot l1 106),(slot l1 107),(slot l1 108),(slot l1 109),(slot l1 110),(slot l1 111),(slot l1 112),(slot l1 113),(slot l1 114),(slot l1 115),(slot l1 116),(slot l1 117),(slot l1 118),(slot l1 119),(slot l1 120),(slot l1 121),(slot l1 122),(slot l1 123),(slot l1 124),(slot l1 125),(slot l1 126),vB,(slot l1 128),(slot l1 129),(slot l1 130),(slot l1 131),(slot l1 132),(slot l1 133),(slot l1 134),(slot l1 135),(slot l1 136),(slot l1 137),(slot l1 138),(slot l1 139),(slot l1 140)] h) (
 IP a0 l1 gP a4 v2 l8 N0 v3 v5 v12 bR bV j_ v33 nv v35 v37 v39 v41 pH v45 vE v49 v51 v53 v55 qG v59 yQ AD h)
def IT (bV a0:Value) (l1:List Value) (a4 bR:Value) (Xm:List Value→Heap→Prop) (h:Heap):Prop :=
 au False prog .eql 245 true false bV (.int .i64 2) h fun v17 h=>
 ay v17 (
 CallW prog 301 [a0,(slot l1 127),(slot l1 140),a4] h fun cW h=>
 au False prog .sub 3 true false (slot l1 140) (.int .i64 1) h fun v19 h=>
 au False prog .sub 3 false false bR (slot l1 127) h fun v20 h=>
 au False prog .sub 3 false false v19 v20 h fun v21 h=>
 Xm [bV,v17,a0,(slot l1 127),(slot l1 140),a4,cW,(slot l1 140),v19,bR,(slot l1 127),v20,v21,v21,(.int .i64 1)] h) (
 Xm [bV,v17,(slot l1 38),(slot l1 39),(slot l1 40),(slot l1 41),(slot l1 42),(slot l1 43),(slot l1 44),(slot l1 45),(slot l1 46),(slot l1 47),(slot l1 48),bR,bV] h)
def IU (a0:Value) (l1:List Value) (a4:Value) (N0:List Value→Heap→Prop) (v2 v3 v5:Value) (l8:List Value) (h:Heap) (κ:KQ):Prop :=
 CallW prog 300 [a0,(slot l1 127),(slot l1 140),a4] h fun v12 h=>
 av False 0 v12 h fun bR h=>
 av False 1 v12 h fun bV h=>
 dH (fun Xm=>
 IT bV a0 l1 a4 bR Xm h) fun gP h=>
 dH (fun Xl=>
 IQ l1 gP a0 a4 Xl h κ) fun j_ h=>
 IS l1 a4 a0 gP N0 v2 v3 v5 l8 v12 bR bV j_ h
def IV (l1:List Value) (a0 a4:Value) (N0:List Value→Heap→Prop) (v2 v3 v5:Value) (h:Heap) (κ:KQ):Prop :=
 dH (fun N7=>
 kU False .not (slot l1 131) h fun v9 h=>
 ay v9 (
 CallW prog 299 [a0,(slot l1 127),(slot l1 140),a4] h fun v10 h=>
 au False prog .sub 3 true false (slot l1 27) (.int .i64 1) h fun v11 h=>
 N7 [(slot l1 131),v9,a0,(slot l1 127),(slot l1 140),a4,v10,(slot l1 27),v11,v11] h) (
 N7 [(slot l1 131),v9,(slot l1 20),(slot l1 21),(slot l1 22),(slot l1 23),(slot l1 24),(slot l1 25),(slot l1 26),(slot l1 27)] h)) fun l8 h=>
 IU a0 l1 a4 N0 v2 v3 v5 l8 h κ
def Bk (l1:List Value) (a0 a4:Value) (N0:List Value→Heap→Prop) (h:Heap) (κ:KQ):Prop :=
 au False prog .sub 3 false false (slot l1 140) (slot l1 127) h fun v2 h=>
 au False prog .leq 3 true false v2 (.int .i64 12) h fun v3 h=>
 ay v3 (
 CallW prog 297 [a0,(slot l1 127),(slot l1 140),a4] h fun v4 h=>
 κ (Value.tuple (Array.mk [])) h) (
 au False prog .eql 3 true false (slot l1 27) (.int .i64 0) h fun v5 h=>
 ay v5 (
 CallW prog 298 [a0,(slot l1 127),(slot l1 140),a4] h fun v6 h=>
 κ (Value.tuple (Array.mk [])) h) (
 IV l1 a0 a4 N0 v2 v3 v5 h κ))
theorem Qu (a0 a1 a2 a3 a4:Value) (h:Heap) (κ:KQ):aK prog 263 [a0,a1,a2,a3,a4] h κ = (
 dP [undef,undef,undef,undef,undef,undef,undef,undef,undef,undef,undef,undef,undef,undef,undef,undef,undef,undef,undef,undef,undef,undef,undef,undef,undef,undef,undef,a3,undef,undef,undef,undef,undef,undef,undef,undef,undef,undef,undef,undef,undef,undef,undef,undef,undef,undef,undef,undef,undef,undef,undef,undef,undef,undef,undef,undef,undef,undef,undef,undef,undef,undef,undef,undef,undef,undef,undef,undef,undef,undef,undef,undef,undef,undef,undef,undef,undef,undef,undef,undef,undef,undef,undef,undef,undef,undef,undef,undef,undef,undef,undef,undef,undef,undef,undef,undef,undef,undef,undef,undef,undef,(.bool true),undef,undef,undef,undef,undef,undef,undef,undef,undef,undef,undef,undef,undef,undef,undef,undef,undef,undef,undef,undef,undef,undef,undef,undef,undef,a1,undef,undef,undef,(.bool true),undef,undef,undef,undef,undef,undef,undef,undef,a2] h fun l1 h N0=>
 Bk l1 a0 a4 N0 h κ) := by kernel_rfl
theorem Qv (a0 a1:Value) (h:Heap) (κ:KQ):aK prog 269 [a0,a1] h κ = (
 az False (Value.cells a0).toList 83 false fun o0 => an False o0 h fun b1 h=>
 fieldAddrB False 0 (ptrTo b1) h fun v2 h=>
 load1 False v2 h fun v3 h=>
 load1 False a1 h fun v4 h=>
 au False prog .eql 3 false false v3 v4 h fun v5 h=>
 κ v5 h) := by kernel_rfl
theorem Qw (a0:Value) (h:Heap) (κ:KQ):aK prog 287 [a0] h κ = (
 az False (Value.cells a0).toList 81 false fun o0 => an False o0 h fun b1 h=>
 az False [(.int .i64 0),(.int .i64 0),(.slice none 0 0),(.int .i64 0)] 305 false fun o2 => an False o2 h fun b3 h=>
 fieldAddrB False 2 (ptrTo b1) h fun v4 h=>
 load1 False v4 h fun v5 h=>
 CallW prog 139 [v5] h fun v6 h=>
 fieldAddrB False 2 (ptrTo b1) h fun v7 h=>
 aL False 1 v7 v6 h fun v8 h=>
 aF False 4 (ptrTo b1) h fun v9 h=>
 bD False [(0,4)] [v9] [(.int .i64 0),(.int .i64 0),(.slice none 0 0),(.int .i64 0)] fun Zu=>
 aL False 4 (ptrTo b3) (Value.agg (Array.mk Zu)) h fun v11 h=>
 aF False 4 (ptrTo b3) h fun v12 _ => κ v12 h) := by kernel_rfl
theorem Qx (a0 a1:Value) (h:Heap) (κ:KQ):aK prog 288 [a0,a1] h κ = (
 az False (Value.cells a0).toList 305 false fun o0 => an False o0 h fun b1 h=>
 az False (Value.cells a1).toList 3 false fun o2 => an False o2 h fun b3 h=>
 az False [(.int .i64 0),(.int .i64 0),(.slice none 0 0),(.int .i64 0)] 81 false fun o4 => an False o4 h fun b5 h=>
 fieldAddrB False 0 (ptrTo b1) h fun v6 h=>
 fieldAddrB False 2 v6 h fun v7 h=>
 load1 False v7 h fun v8 h=>
 CallW prog 315 [v8,(Value.func (.func 316) (Array.mk []) (Array.mk [(ptrTo b3)]))] h fun v9 h=>
 fieldAddrB False 0 (ptrTo b1) h fun v10 h=>
 fieldAddrB False 2 v10 h fun v11 h=>
 aL False 1 v11 v9 h fun v12 h=>
 fieldAddrB False 0 (ptrTo b1) h fun bR h=>
 aF False 4 bR h fun bV h=>
 aL False 4 (ptrTo b5) bV h fun bY h=>
 aF False 4 (ptrTo b5) h fun v16 _ => κ v16 h) := by kernel_rfl
def Bl (b7:Nat) (bR:Value) (IW:List Value) (US:List Value→Heap→Prop) (v12 bV v16 cW v20 v22 v24 v26 v28 v30 v32 v33:Value) (h:Heap):Prop :=
 aI (fieldAddrB none 0 (ptrTo b7) h fun v _=>some v) h fun vD h=>
 aI (fieldAddrB none 2 vD h fun v _=>some v) h fun v39 h=>
 aI (load1 none v39 h fun v _=>some v) h fun v40 h=>
 aI (some bR) h fun v41 h=>
 aI (fieldAddrB none 0 (ptrTo b7) h fun v _=>some v) h fun vC h=>
 aI (fieldAddrB none 2 vC h fun v _=>some v) h fun pH h=>
 aI (load1 none pH h fun v _=>some v) h fun v44 h=>
 aI (some bR) h fun v45 h=>
 aI (fieldAddrB none 0 (ptrTo b7) h fun v _=>some v) h fun v46 h=>
 aI (fieldAddrB none 2 v46 h fun v _=>some v) h fun vE h=>
 aI (load1 none vE h fun v _=>some v) h fun Ch h=>
 aI (some bR) h fun v49 h=>
 aI (ax none 5 Ch v49 h fun v _=>some v) h fun v50 h=>
 aI (fieldAddrB none 3 v50 h fun v _=>some v) h fun v51 h=>
 aI (load1 none v51 h fun v _=>some v) h fun rq h=>
 aI (ax none 5 v40 v41 h fun v _=>some v) h fun v53 h=>
 aI (fieldAddrB none 2 v53 h fun v _=>some v) h fun v54 h=>
 aL False 1 v54 rq h fun v55 h=>
 dG ((gz (fieldAddrB none 0 (ptrTo b7) h fun v _=>some v) vC) && ((gz (fieldAddrB none 2 vC h fun v _=>some v) pH) && ((gz (load1 none pH h fun v _=>some v) v44) && ((gz (some bR) v45) && true)))) (aI (ax none 5 v44 v45 h fun v _=>some v) h fun tO h=>
 aI (fieldAddrB none 4 tO h fun v _=>some v) h fun qG h=>
 aL False 1 qG (.int .i64 0) h fun v58 h=>
 fieldAddrB False 0 (ptrTo b7) h fun v59 h=>
 fieldAddrB False 2 v59 h fun v60 h=>
 load1 False v60 h fun yQ h=>
 ax False 5 yQ bR h fun AD h=>
 fieldAddrB False 0 AD h fun vB h=>
 load1 False vB h fun v64 h=>
 bD False [(0,1)] [v64] (aO [(.int .i64 0)] 1) fun Zv => az False Zv 3 false fun Zf => an False Zf h fun Kv h=>
 bE False 3 1 [(.int .i64 0)] false (slot IW 49) (sliceTo 1 1 Kv) h fun qE h=>
 US [v12,bR,bR,bR,bV,bV,v16,cW,v20,v22,v24,v26,v28,v30,v32,v33,(slot IW 16),(slot IW 17),(slot IW 18),(slot IW 19),vD,v39,v40,v41,vC,pH,v44,v45,v46,vE,Ch,v49,v50,v51,rq,v53,v54,tO,qG,(slot IW 49),v59,v60,yQ,bR,AD,vB,v64,(sliceTo 1 1 Kv),qE,qE] h)
def Bm (b7:Nat) (v9:Value) (b3:Nat) (IW:List Value) (US:List Value→Heap→Prop) (h:Heap) (κ:KQ):Prop :=
 aF False 4 (ptrTo b7) h fun v12 h=>
 CallW prog 318 [v12] h fun bR h=>
 au False prog .lss 3 true false bR (.int .i64 0) h fun bV h=>
 ah (aj bV false) (fun TX=>
 TX (Value.func (.func 317) (Array.mk [v9]) (Array.mk [])) h) h fun v16 h=>
 ah (aj bV false) (fun Pr=>
 fieldAddrB False 0 (ptrTo b7) h Pr) h fun cW h=>
 ah (aj bV false) (fun C7=>
 fieldAddrB False 2 cW h C7) h fun v20 h=>
 ah (aj bV false) (fun IC=>
 load1 False v20 h IC) h fun v22 h=>
 ah (aj bV false) (fun ID=>
 ID bR h) h fun v24 h=>
 ah (aj bV false) (fun UP=>
 ax False 5 v22 v24 h UP) h fun v26 h=>
 ah (aj bV false) (fun Ql=>
 aF False 5 v26 h Ql) h fun v28 h=>
 ah (aj bV false) (fun Qm=>
 iE prog v16 [v28] h Qm) h fun v30 h=>
 ah (aj bV false) (fun Pw=>
 kU False .not v30 h Pw) h fun v32 h=>
 a_ False bV (.bool true) v32 h fun v33 h=>
 ay v33 (
 fieldAddrB False 0 (ptrTo b7) h fun nv h=>
 aF False 4 nv h fun v35 h=>
 aL False 4 (ptrTo b3) v35 h fun pL h=>
 aF False 4 (ptrTo b3) h fun v37 _ => κ (Value.tuple (Array.mk [v37,(slot IW 49)])) h) (
 Bl b7 bR IW US v12 bV v16 cW v20 v22 v24 v26 v28 v30 v32 v33 h)
theorem Qy (a0:Value) (h:Heap) (κ:KQ):aK prog 289 [a0] h κ = (
 az False (Value.cells a0).toList 81 false fun o0 => an False o0 h fun b1 h=>
 az False [(.int .i64 0),(.int .i64 0),(.slice none 0 0),(.int .i64 0)] 81 false fun o2 => an False o2 h fun b3 h=>
 aF False 4 (ptrTo b1) h fun v4 h=>
 CallW prog 287 [v4] h fun v5 h=>
 az False [(.int .i64 0),(.int .i64 0),(.slice none 0 0),(.int .i64 0)] 305 false fun o6 => an False o6 h fun b7 h=>
 aL False 4 (ptrTo b7) v5 h fun v8 h=>
 aF False 4 (ptrTo b7) h fun v9 h=>
 dP [undef,undef,undef,undef,undef,undef,undef,undef,undef,undef,undef,undef,undef,undef,undef,undef,undef,undef,undef,(.slice none 0 0),undef,undef,undef,undef,undef,undef,undef,undef,undef,undef,undef,undef,undef,undef,undef,undef,undef,undef,undef,undef,undef,undef,undef,undef,undef,undef,undef,undef,undef,(.slice none 0 0)] h fun IW h US=>
 Bm b7 v9 b3 IW US h κ) := by kernel_rfl
theorem Qz (a0 a1:Value) (h:Heap) (κ:KQ):aK prog 290 [a0,a1] h κ = (
 az False (Value.cells a0).toList 83 false fun o0 => an False o0 h fun b1 h=>
 fieldAddrB False 1 (ptrTo b1) h fun v2 h=>
 load1 False v2 h fun v3 h=>
 load1 False a1 h fun v4 h=>
 au False prog .eql 3 false false v3 v4 h fun v5 h=>
 κ v5 h) := by kernel_rfl
def Bn (v0 a1 a0:Value) (h:Heap) (κ:KQ):Prop :=
 aX False v0 h fun v3 h=>
 aF False 4 v3 h fun v4 h=>
 CallW prog 319 [v4,a1] h fun v5 h=>
 av False 0 v5 h fun v6 h=>
 av False 1 v5 h fun v7 h=>
 az False [(.int .i64 0),(.int .i64 0),(.slice none 0 0),(.int .i64 0)] 81 false fun o8 => an False o8 h fun b9 h=>
 aL False 4 (ptrTo b9) v6 h fun v10 h=>
 aX False a0 h fun v11 h=>
 fieldAddrB False 1 v11 h fun v12 h=>
 load1 False v12 h fun bR h=>
 CallW prog 246 [bR,a1] h fun bV h=>
 aF False 4 (ptrTo b9) h fun bY h=>
 CallW prog 247 [a0,bY] h fun v16 h=>
 κ (Value.tuple (Array.mk [v16,(.int .i64 0)])) h
theorem QA (a0 a1:Value) (h:Heap) (κ:KQ):aK prog 291 [a0,a1] h κ = (
 CallW prog 243 [a0,a1] h fun v0 h=>
 au False prog .eql 228 true false v0 (.pointer none) h fun v1 h=>
 ay v1 (
 CallW prog 244 [a0] h fun v2 h=>
 κ (Value.tuple (Array.mk [(.slice none 0 0),v2])) h) (
 Bn v0 a1 a0 h κ)) := by kernel_rfl
def Bo (a0:Value) (h:Heap) (κ:KQ):Prop :=
 aX False a0 h fun v7 h=>
 fieldAddrB False 0 v7 h fun v8 h=>
 CallW prog 135 [(Value.iface 240 v8)] h fun v9 h=>
 dM False 3 (.int .i64 0) true v9 h fun v10 h=>
 av False 0 v10 h fun v11 h=>
 av False 1 v10 h fun v12 h=>
 aX False a0 h fun bR h=>
 fieldAddrB False 1 bR h fun bV h=>
 load1 False bV h fun bY h=>
 ax False 1 bY v11 h fun v16 h=>
 aL False 1 v16 (.bool true) h fun v17 h=>
 κ (Value.tuple (Array.mk [v11,(.int .i64 0)])) h
def Bp (a0:Value) (h:Heap) (κ:KQ):Prop :=
 aX False a0 h fun v1 h=>
 fieldAddrB False 0 v1 h fun v2 h=>
 fieldAddrB False 0 v2 h fun v3 h=>
 load1 False v3 h fun v4 h=>
 CallW prog 137 [v4] h fun v5 h=>
 au False prog .eql 3 true false v5 (.int .i64 0) h fun v6 h=>
 ay v6 (
 κ (Value.tuple (Array.mk [(.int .i64 0),(.int .i64 8)])) h) (
 Bo a0 h κ)
theorem QB (a0:Value) (h:Heap) (κ:KQ):aK prog 292 [a0] h κ = (
 au False prog .eql 144 true false a0 (.pointer none) h fun v0 h=>
 ay v0 (
 κ (Value.tuple (Array.mk [(.int .i64 0),(.int .i64 1)])) h) (
 Bp a0 h κ)) := by kernel_rfl
def uq (vF FQ:Nat) (CZ:List Value→Heap→Prop) (v46:Value) (h:Heap):Prop :=
 fieldAddrB False 0 (ptrTo vF) h fun v51 h=>
 fieldAddrB False 3 v51 h fun rq h=>
 load1 False rq h fun v53 h=>
 au False prog .add 3 true false v53 (.int .i64 1) h fun v54 h=>
 fieldAddrB False 0 (ptrTo vF) h fun v55 h=>
 fieldAddrB False 3 v55 h fun tO h=>
 aL False 1 tO v54 h fun qG h=>
 fieldAddrB False 0 (ptrTo vF) h fun v58 h=>
 fieldAddrB False 3 v58 h fun v59 h=>
 load1 False v59 h fun v60 h=>
 fieldAddrB False 4 (ptrTo FQ) h fun yQ h=>
 aL False 1 yQ v60 h fun AD h=>
 CZ [v46,undef,undef,v51,rq,v53,v54,v55,tO,v58,v59,v60,yQ] h
def pO (vF FQ b7:Nat) (v46:Value) (h:Heap) (κ:KQ):Prop :=
 fieldAddrB False 0 (ptrTo vF) h fun vB h=>
 fieldAddrB False 2 vB h fun v64 h=>
 load1 False v64 h fun jR h=>
 aF False 5 (ptrTo FQ) h fun v66 h=>
 bD False [(0,5)] [v66] (aO [(.int .i64 0),(.int .i64 0),(.int .i64 0),(.int .i64 0),(.int .i64 0)] 1) fun Zw => az False Zw 83 false fun o67 => an False o67 h fun b68 h=>
 bE False 83 5 [(.int .i64 0),(.int .i64 0),(.int .i64 0),(.int .i64 0),(.int .i64 0)] false jR (sliceTo 1 1 b68) h fun v70 h=>
 fieldAddrB False 0 (ptrTo vF) h fun rm h=>
 fieldAddrB False 2 rm h fun v72 h=>
 aL False 1 v72 v70 h fun GF h=>
 fieldAddrB False 0 (ptrTo vF) h fun yI h=>
 aF False 4 yI h fun v75 h=>
 aL False 4 (ptrTo b7) v75 h fun v76 h=>
 aF False 4 (ptrTo b7) h fun v77 _ => κ (Value.tuple (Array.mk [v77,v46,(.int .i64 0)])) h
def Bq (b1 b3 b5:Nat) (a3:Value) (b7:Nat) (h:Heap) (κ:KQ):Prop :=
 aF False 4 (ptrTo b1) h fun v26 h=>
 CallW prog 287 [v26] h fun v27 h=>
 az False [(.int .i64 0),(.int .i64 0),(.slice none 0 0),(.int .i64 0)] 305 false fun o28 => an False o28 h fun vF h=>
 aL False 4 (ptrTo vF) v27 h fun v30 h=>
 load1 False (ptrTo b3) h fun v31 h=>
 load1 False (ptrTo b5) h fun v32 h=>
 bD False [(0,1),(1,1),(3,1)] [v31,v32,a3] [(.int .i64 0),(.int .i64 0),(.int .i64 0),(.int .i64 0),(.int .i64 0)] fun Zx=>
 az False [(.int .i64 0),(.int .i64 0),(.int .i64 0),(.int .i64 0),(.int .i64 0)] 83 false fun o34 => an False o34 h fun FQ h=>
 aL False 5 (ptrTo FQ) (Value.agg (Array.mk Zx)) h fun pL h=>
 aF False 4 (ptrTo vF) h fun v37 h=>
 CallW prog 318 [v37] h fun vD h=>
 au False prog .lss 3 true false vD (.int .i64 0) h fun v39 h=>
 ah (aj v39 true) (fun T0=>
 aF False 4 (ptrTo vF) h T0) h fun v41 h=>
 ah (aj v39 true) (fun T1=>
 aF False 5 (ptrTo FQ) h T1) h fun pH h=>
 ah (aj v39 true) (fun T2=>
 CallW prog 317 [v41,pH] h T2) h fun v45 h=>
 a_ False v39 v45 (.bool false) h fun v46 h=>
 dH (fun CZ=>
 ay v46 (
 fieldAddrB False 2 (ptrTo FQ) h fun v49 h=>
 aL False 1 v49 a3 h fun v50 h=>
 CZ [v46,a3,v49,undef,undef,undef,undef,undef,undef,undef,undef,undef,undef] h) (
 uq vF FQ CZ v46 h)) fun cE h=>
 pO vF FQ b7 v46 h κ
def Br (b1 b3 b5 b7:Nat) (a3:Value) (h:Heap) (κ:KQ):Prop :=
 fieldAddrB False 2 (ptrTo b1) h fun v20 h=>
 load1 False v20 h fun v21 h=>
 CallW prog 321 [v21,(Value.func (.func 322) (Array.mk []) (Array.mk [(ptrTo b3),(ptrTo b5)]))] h fun v22 h=>
 ay v22 (
 bD False [] [] [(.int .i64 0),(.int .i64 0),(.slice none 0 0),(.int .i64 0)] fun Zy=>
 aL False 4 (ptrTo b7) (Value.agg (Array.mk Zy)) h fun v24 h=>
 aF False 4 (ptrTo b7) h fun v25 _ => κ (Value.tuple (Array.mk [v25,(.bool false),(.int .i64 4)])) h) (
 Bq b1 b3 b5 a3 b7 h κ)
theorem QC (a0 a1 a2 a3:Value) (h:Heap) (κ:KQ):aK prog 293 [a0,a1,a2,a3] h κ = (
 az False (Value.cells a0).toList 81 false fun o0 => an False o0 h fun b1 h=>
 az False (Value.cells a1).toList 3 false fun o2 => an False o2 h fun b3 h=>
 az False (Value.cells a2).toList 3 false fun o4 => an False o4 h fun b5 h=>
 az False [(.int .i64 0),(.int .i64 0),(.slice none 0 0),(.int .i64 0)] 81 false fun o6 => an False o6 h fun b7 h=>
 load1 False (ptrTo b3) h fun v8 h=>
 au False prog .lss 3 true false v8 (.int .i64 0) h fun v9 h=>
 ah (aj v9 false) (fun nI=>
 nI a3 h) h fun v11 h=>
 ah (aj v9 false) (fun lE=>
 CallW prog 320 [v11] h lE) h fun bR h=>
 ah (aj v9 false) (fun pK=>
 kU False .not bR h pK) h fun bY h=>
 a_ False v9 (.bool true) bY h fun v16 h=>
 ay v16 (
 bD False [] [] [(.int .i64 0),(.int .i64 0),(.slice none 0 0),(.int .i64 0)] fun QD=>
 aL False 4 (ptrTo b7) (Value.agg (Array.mk QD)) h fun cW h=>
 aF False 4 (ptrTo b7) h fun v19 _ => κ (Value.tuple (Array.mk [v19,(.bool false),(.int .i64 2)])) h) (
 Br b1 b3 b5 b7 a3 h κ)) := by kernel_rfl
def ur (v32:Value) (Kw:List Value→Heap→Prop) (yI:Value) (h:Heap):Prop :=
 aX False v32 h fun v77 h=>
 fieldAddrB False 3 v77 h fun v78 h=>
 load1 False v78 h fun v79 h=>
 aX False v32 h fun v80 h=>
 fieldAddrB False 2 v80 h fun Kt h=>
 aL False 1 Kt v79 h fun v82 h=>
 Kw [yI,v32,v32,v77,v78,v79,v80,Kt,undef,undef,undef,undef,undef,undef,undef,undef,undef,undef,undef,undef] h
def uu (r7:Nat) (v32:Value) (Kw:List Value→Heap→Prop) (yI:Value) (h:Heap):Prop :=
 fieldAddrB False 0 (ptrTo r7) h fun Cg h=>
 fieldAddrB False 3 Cg h fun LK h=>
 load1 False LK h fun v85 h=>
 au False prog .add 3 true false v85 (.int .i64 1) h fun St h=>
 fieldAddrB False 0 (ptrTo r7) h fun v87 h=>
 fieldAddrB False 3 v87 h fun Ku h=>
 aL False 1 Ku St h fun FJ h=>
 fieldAddrB False 0 (ptrTo r7) h fun v90 h=>
 fieldAddrB False 3 v90 h fun v91 h=>
 load1 False v91 h fun Yu h=>
 aX False v32 h fun v93 h=>
 fieldAddrB False 4 v93 h fun Su h=>
 aL False 1 Su Yu h fun NN h=>
 Kw [yI,undef,undef,undef,undef,undef,undef,undef,Cg,LK,v85,St,v87,Ku,v32,v90,v91,Yu,v93,Su] h
def Bs (r7:Nat) (bY a2:Value) (b3:Nat) (h:Heap) (κ:KQ):Prop :=
 fieldAddrB False 0 (ptrTo r7) h fun oL h=>
 fieldAddrB False 2 oL h fun v30 h=>
 load1 False v30 h fun v31 h=>
 ax False 5 v31 bY h fun v32 h=>
 aX False v32 h fun v33 h=>
 fieldAddrB False 2 v33 h fun nv h=>
 load1 False nv h fun v35 h=>
 CallW prog 208 [v35,a2] h fun pL h=>
 aX False v32 h fun v37 h=>
 fieldAddrB False 3 v37 h fun vD h=>
 aL False 1 vD pL h fun v39 h=>
 aI (some v32) h fun v40 h=>
 aI (aX none v40 h fun v _=>some v) h fun v41 h=>
 aI (fieldAddrB none 3 v41 h fun v _=>some v) h fun vC h=>
 aI (load1 none vC h fun v _=>some v) h fun pH h=>
 aI (some v32) h fun v44 h=>
 aI (aX none v44 h fun v _=>some v) h fun v45 h=>
 aI (fieldAddrB none 2 v45 h fun v _=>some v) h fun v46 h=>
 aI (load1 none v46 h fun v _=>some v) h fun vE h=>
 aI (au none prog .eql 37 false false pH vE h fun v _=>some v) h fun Ch h=>
 aI (some Ch) h fun v49 h=>
 ah (aj v49 false) (fun Zo=>
 aI (aF none 4 (ptrTo r7) h fun v _=>some v) h Zo) h fun v51 h=>
 ah (aj v49 false) (fun Zp=>
 aI (some v32) h Zp) h fun v53 h=>
 ah (aj v49 false) (fun Zq=>
 aI (aX none v53 h fun v _=>some v) h Zq) h fun v55 h=>
 ah (aj v49 false) (fun Zr=>
 aI (aF none 5 v55 h fun v _=>some v) h Zr) h fun qG h=>
 ah (aj v49 false) (fun Zs=>
 CallW prog 317 [v51,qG] h Zs) h fun v59 h=>
 ah (aj v49 false) (fun Zt=>
 aI (some v59) h Zt) h fun yQ h=>
 ah (aj yQ true) (fun K62=>
 aI (fieldAddrB none 0 (ptrTo r7) h fun v _=>some v) h K62) h fun vB h=>
 ah (aj yQ true) (fun K64=>
 aI (fieldAddrB none 2 vB h fun v _=>some v) h K64) h fun jR h=>
 ah (aj yQ true) (fun K66=>
 aI (load1 none jR h fun v _=>some v) h K66) h fun v67 h=>
 ah (aj yQ true) (fun K68=>
 CallW prog 321 [v67,(Value.func (.func 238) (Array.mk []) (Array.mk []))] h K68) h fun r_ h=>
 ah (aj yQ true) (fun K70=>
 aI (kU none .not r_ h fun v _=>some v) h K70) h fun rm h=>
 ah (aj v49 false) (fun Zg=>
 aI (a_ none yQ rm (.bool false) h fun v _=>some v) h Zg) h fun GF h=>
 aI (a_ none v49 (.bool true) GF h fun v _=>some v) h fun yI h=>
 dH (fun Kw=>
 ay yI (
 ur v32 Kw yI h) (
 uu r7 v32 Kw yI h)) fun l76 h=>
 fieldAddrB False 0 (ptrTo r7) h fun TF h=>
 aF False 4 TF h fun Sv h=>
 aL False 4 (ptrTo b3) Sv h fun Xg h=>
 aF False 4 (ptrTo b3) h fun LL _ => κ (Value.tuple (Array.mk [LL,yI,(.int .i64 0)])) h
def Bt (r7:Nat) (bY:Value) (b3:Nat) (a2:Value) (h:Heap) (κ:KQ):Prop :=
 fieldAddrB False 0 (ptrTo r7) h fun v20 h=>
 fieldAddrB False 2 v20 h fun v21 h=>
 load1 False v21 h fun v22 h=>
 ax False 5 v22 bY h fun v23 h=>
 aF False 5 v23 h fun v24 h=>
 CallW prog 192 [v24] h fun v25 h=>
 ay v25 (
 bD False [] [] [(.int .i64 0),(.int .i64 0),(.slice none 0 0),(.int .i64 0)] fun Zz=>
 aL False 4 (ptrTo b3) (Value.agg (Array.mk Zz)) h fun v27 h=>
 aF False 4 (ptrTo b3) h fun v28 _ => κ (Value.tuple (Array.mk [v28,(.bool false),(.int .i64 7)])) h) (
 Bs r7 bY a2 b3 h κ)
def Bu (b1:Nat) (a1:Value) (b3:Nat) (a2:Value) (h:Heap) (κ:KQ):Prop :=
 aF False 4 (ptrTo b1) h fun v9 h=>
 CallW prog 287 [v9] h fun v10 h=>
 az False [(.int .i64 0),(.int .i64 0),(.slice none 0 0),(.int .i64 0)] 305 false fun Yn => an False Yn h fun r7 h=>
 aL False 4 (ptrTo r7) v10 h fun bR h=>
 aF False 4 (ptrTo r7) h fun bV h=>
 CallW prog 236 [bV,a1] h fun bY h=>
 au False prog .lss 3 true false bY (.int .i64 0) h fun v16 h=>
 ay v16 (
 bD False [] [] [(.int .i64 0),(.int .i64 0),(.slice none 0 0),(.int .i64 0)] fun QD=>
 aL False 4 (ptrTo b3) (Value.agg (Array.mk QD)) h fun cW h=>
 aF False 4 (ptrTo b3) h fun v19 _ => κ (Value.tuple (Array.mk [v19,(.bool false),(.int .i64 5)])) h) (
 Bt r7 bY b3 a2 h κ)
theorem QE (a0 a1 a2:Value) (h:Heap) (κ:KQ):aK prog 294 [a0,a1,a2] h κ = (
 az False (Value.cells a0).toList 81 false fun o0 => an False o0 h fun b1 h=>
 az False [(.int .i64 0),(.int .i64 0),(.slice none 0 0),(.int .i64 0)] 81 false fun o2 => an False o2 h fun b3 h=>
 CallW prog 320 [a2] h fun v4 h=>
 kU False .not v4 h fun v5 h=>
 ay v5 (
 bD False [] [] [(.int .i64 0),(.int .i64 0),(.slice none 0 0),(.int .i64 0)] fun Zn=>
 aL False 4 (ptrTo b3) (Value.agg (Array.mk Zn)) h fun v7 h=>
 aF False 4 (ptrTo b3) h fun v8 _ => κ (Value.tuple (Array.mk [v8,(.bool false),(.int .i64 2)])) h) (
 Bu b1 a1 b3 a2 h κ)) := by kernel_rfl
def IX (a0:Value) (l5:List Value) (N4:List Value→Heap→Prop) (v6 v7 v8 v9 v11 bR bY v17 v19 v21 v23 v25 v27 oL v31 v33 nv:Value) (h:Heap):Prop :=
 aI (some a0) h fun v35 h=>
 aI (some (slot l5 35)) h fun pL h=>
 aI (some a0) h fun v37 h=>
 aI (some (slot l5 35)) h fun vD h=>
 aI (au none prog .sub 3 true false vD (.int .i64 1) h fun v _=>some v) h fun v39 h=>
 aI (some a0) h fun v40 h=>
 aI (some (slot l5 35)) h fun v41 h=>
 aI (au none prog .sub 3 true false v41 (.int .i64 1) h fun v _=>some v) h fun vC h=>
 aI (ax none 2 v40 vC h fun v _=>some v) h fun pH h=>
 aI (aF none 2 pH h fun v _=>some v) h fun v44 h=>
 aI (some a0) h fun v45 h=>
 aI (some (slot l5 35)) h fun v46 h=>
 aI (ax none 2 v45 v46 h fun v _=>some v) h fun vE h=>
 aI (aF none 2 vE h fun v _=>some v) h fun Ch h=>
 aI (ax none 2 v35 pL h fun v _=>some v) h fun v49 h=>
 aL False 2 v49 v44 h fun v50 h=>
 dG ((gz (some a0) v37) && ((gz (some (slot l5 35)) vD) && ((gz (au none prog .sub 3 true false vD (.int .i64 1) h fun v _=>some v) v39) && true))) (aI (ax none 2 v37 v39 h fun v _=>some v) h fun v51 h=>
 aL False 2 v51 Ch h fun rq h=>
 au False prog .sub 3 true false (slot l5 35) (.int .i64 1) h fun v53 h=>
 N4 [v6,v7,v8,v9,v11,bR,bY,v17,v19,v21,v23,v25,v27,oL,v31,v33,nv,v35,pL,v37,vD,v39,v40,v41,vC,pH,v44,v45,v46,vE,Ch,v49,v51,(slot l5 35),v53,v53] h)
def IY (l5:List Value) (a1 a3 a0:Value) (N4:List Value→Heap→Prop) (l2:List Value) (N1:List Value→Heap→Prop) (a2 v3:Value) (h:Heap):Prop :=
 aI (some (slot l5 35)) h fun v6 h=>
 aI (some a1) h fun v7 h=>
 aI (au none prog .gtr 3 false false v6 v7 h fun v _=>some v) h fun v8 h=>
 aI (some v8) h fun v9 h=>
 ah (aj v9 true) (fun nI=>
 aI (some a3) h nI) h fun v11 h=>
 ah (aj v9 true) (fun lE=>
 aI (some a0) h lE) h fun bR h=>
 ah (aj v9 true) (fun pK=>
 aI (some (slot l5 35)) h pK) h fun bY h=>
 ah (aj v9 true) (fun tR=>
 aI (ax none 2 bR bY h fun v _=>some v) h tR) h fun v17 h=>
 ah (aj v9 true) (fun AH=>
 aI (aF none 2 v17 h fun v _=>some v) h AH) h fun v19 h=>
 ah (aj v9 true) (fun II=>
 aI (some a0) h II) h fun v21 h=>
 ah (aj v9 true) (fun K22=>
 aI (some (slot l5 35)) h K22) h fun v23 h=>
 ah (aj v9 true) (fun LU=>
 aI (au none prog .sub 3 true false v23 (.int .i64 1) h fun v _=>some v) h LU) h fun v25 h=>
 ah (aj v9 true) (fun Pu=>
 aI (ax none 2 v21 v25 h fun v _=>some v) h Pu) h fun v27 h=>
 ah (aj v9 true) (fun TY=>
 aI (aF none 2 v27 h fun v _=>some v) h TY) h fun oL h=>
 ah (aj v9 true) (fun TZ=>
 iE prog v11 [v19,oL] h TZ) h fun v31 h=>
 ah (aj v9 true) (fun K32=>
 aI (au none prog .lss 3 true false v31 (.int .i64 0) h fun v _=>some v) h K32) h fun v33 h=>
 aI (a_ none v9 v33 (.bool false) h fun v _=>some v) h fun nv h=>
 ay nv (
 IX a0 l5 N4 v6 v7 v8 v9 v11 bR bY v17 v19 v21 v23 v25 v27 oL v31 v33 nv h) (
 au False prog .add 3 true false (slot l2 42) (.int .i64 1) h fun v54 h=>
 N1 [(slot l2 42),a2,v3,(slot l2 42),v6,v7,v8,v9,v11,bR,bY,v17,v19,v21,v23,v25,v27,oL,v31,v33,nv,(slot l5 17),(slot l5 18),(slot l5 19),(slot l5 20),(slot l5 21),(slot l5 22),(slot l5 23),(slot l5 24),(slot l5 25),(slot l5 26),(slot l5 27),(slot l5 28),(slot l5 29),(slot l5 30),(slot l5 31),(slot l5 32),(slot l5 33),(slot l5 34),(slot l5 35),(slot l2 42),v54,v54] h)
theorem QF (a0 a1 a2 a3:Value) (h:Heap) (κ:KQ):aK prog 297 [a0,a1,a2,a3] h κ = (
 au False prog .add 3 true false a1 (.int .i64 1) h fun v0 h=>
 dP [undef,undef,undef,undef,undef,undef,undef,undef,undef,undef,undef,undef,undef,undef,undef,undef,undef,undef,undef,undef,undef,undef,undef,undef,undef,undef,undef,undef,undef,undef,undef,undef,undef,undef,undef,undef,undef,undef,undef,undef,undef,undef,v0] h fun l2 h N1=>
 au False prog .lss 3 false false (slot l2 42) a2 h fun v3 h=>
 ay v3 (
 dP [(slot l2 4),(slot l2 5),(slot l2 6),(slot l2 7),(slot l2 8),(slot l2 9),(slot l2 10),(slot l2 11),(slot l2 12),(slot l2 13),(slot l2 14),(slot l2 15),(slot l2 16),(slot l2 17),(slot l2 18),(slot l2 19),(slot l2 20),(slot l2 21),(slot l2 22),(slot l2 23),(slot l2 24),(slot l2 25),(slot l2 26),(slot l2 27),(slot l2 28),(slot l2 29),(slot l2 30),(slot l2 31),(slot l2 32),(slot l2 33),(slot l2 34),(slot l2 35),(slot l2 36),(slot l2 37),(slot l2 38),(slot l2 42)] h fun l5 h N4=>
 IY l5 a1 a3 a0 N4 l2 N1 a2 v3 h) (
 κ (Value.tuple (Array.mk [])) h)) := by kernel_rfl
theorem QG (a0 a1:Value) (h:Heap) (κ:KQ):aK prog 316 [a0,a1] h κ = (
 az False (Value.cells a0).toList 83 false fun o0 => an False o0 h fun b1 h=>
 fieldAddrB False 0 (ptrTo b1) h fun v2 h=>
 load1 False v2 h fun v3 h=>
 load1 False a1 h fun v4 h=>
 au False prog .eql 3 false false v3 v4 h fun v5 h=>
 κ v5 h) := by kernel_rfl
theorem QH (a0 a1:Value) (h:Heap) (κ:KQ):aK prog 317 [a0,a1] h κ = (
 az False (Value.cells a0).toList 305 false fun o0 => an False o0 h fun b1 h=>
 az False (Value.cells a1).toList 83 false fun o2 => an False o2 h fun b3 h=>
 fieldAddrB False 0 (ptrTo b1) h fun v4 h=>
 fieldAddrB False 2 v4 h fun v5 h=>
 load1 False v5 h fun v6 h=>
 CallW prog 321 [v6,(Value.func (.func 334) (Array.mk []) (Array.mk [(ptrTo b3)]))] h fun v7 h=>
 kU False .not v7 h fun v8 h=>
 κ v8 h) := by kernel_rfl
def Bv (v4:Value) (l7:List Value) (b1:Nat) (N9:List Value→Heap→Prop) (h:Heap):Prop :=
 ax False 5 v4 (slot l7 27) h fun v11 h=>
 aF False 5 v11 h fun v12 h=>
 az False [(.int .i64 0),(.int .i64 0),(.int .i64 0),(.int .i64 0),(.int .i64 0)] 83 false fun o13 => an False o13 h fun UT h=>
 aL False 5 (ptrTo UT) v12 h fun bY h=>
 aI (aF none 5 (ptrTo UT) h fun v _=>some v) h fun v16 h=>
 CallW prog 238 [v16] h fun v17 h=>
 aI (some v17) h fun cW h=>
 ah (aj cW true) (fun C7=>
 aI (some (slot l7 25)) h C7) h fun v20 h=>
 ah (aj cW true) (fun IC=>
 aI (au none prog .lss 3 true false v20 (.int .i64 0) h fun v _=>some v) h IC) h fun v22 h=>
 ah (aj cW true) (fun ID=>
 aI (some v22) h ID) h fun v24 h=>
 ah (aj v24 false) (fun UP=>
 aI (fieldAddrB none 4 (ptrTo UT) h fun v _=>some v) h UP) h fun v26 h=>
 ah (aj v24 false) (fun Ql=>
 aI (load1 none v26 h fun v _=>some v) h Ql) h fun v28 h=>
 ah (aj v24 false) (fun Qm=>
 aI (fieldAddrB none 0 (ptrTo b1) h fun v _=>some v) h Qm) h fun v30 h=>
 ah (aj v24 false) (fun Pw=>
 aI (fieldAddrB none 2 v30 h fun v _=>some v) h Pw) h fun v32 h=>
 ah (aj v24 false) (fun Pv=>
 aI (load1 none v32 h fun v _=>some v) h Pv) h fun nv h=>
 ah (aj v24 false) (fun Y7=>
 aI (some (slot l7 25)) h Y7) h fun pL h=>
 ah (aj v24 false) (fun Y8=>
 aI (ax none 5 nv pL h fun v _=>some v) h Y8) h fun vD h=>
 ah (aj v24 false) (fun K39=>
 aI (fieldAddrB none 4 vD h fun v _=>some v) h K39) h fun v40 h=>
 ah (aj v24 false) (fun K41=>
 aI (load1 none v40 h fun v _=>some v) h K41) h fun vC h=>
 ah (aj v24 false) (fun K43=>
 aI (au none prog .lss 3 false false v28 vC h fun v _=>some v) h K43) h fun v44 h=>
 ah (aj cW true) (fun K45=>
 aI (a_ none v24 (.bool true) v44 h fun v _=>some v) h K45) h fun v46 h=>
 aI (a_ none cW v46 (.bool false) h fun v _=>some v) h fun vE h=>
 ay vE (
 N9 [(slot l7 27),v11,v12,(ptrTo UT),(slot l7 27),v16,v17,cW,v20,v22,v24,v26,v28,v30,v32,nv,pL,vD,v40,vC,v44,v46,vE,(slot l7 27),(slot l7 27)] h) (
 N9 [(slot l7 27),v11,v12,(ptrTo UT),(slot l7 27),v16,v17,cW,v20,v22,v24,v26,v28,v30,v32,nv,pL,vD,v40,vC,v44,v46,vE,(slot l7 24),(slot l7 25)] h)
def uv (l7:List Value) (b1:Nat) (Xn:List Value→Heap→Prop) (h:Heap):Prop :=
 au False prog .lss 3 true false (slot l7 25) (.int .i64 0) h fun v51 h=>
 ay v51 (
 fieldAddrB False 0 (ptrTo b1) h fun rq h=>
 fieldAddrB False 2 rq h fun v53 h=>
 load1 False v53 h fun v54 h=>
 CallW prog 268 [v54,(Value.func (.func 335) (Array.mk []) (Array.mk []))] h fun v55 h=>
 Xn [(slot l7 25),v51,rq,v53,v54,v55,v55] h) (
 Xn [(slot l7 25),v51,undef,undef,undef,undef,(slot l7 25)] h)
def uw (l7:List Value) (v5 v4:Value) (b1:Nat) (N6:List Value→Heap→Prop) (h:Heap) (κ:KQ):Prop :=
 au False prog .lss 3 false false (slot l7 27) v5 h fun v8 h=>
 ay v8 (
 dH (fun N9=>
 Bv v4 l7 b1 N9 h) fun rM h=>
 au False prog .add 3 true false (slot l7 27) (.int .i64 1) h fun Ch h=>
 N6 [v8,(slot rM 0),(slot rM 1),(slot rM 2),(slot rM 3),(slot rM 4),(slot rM 5),(slot rM 6),(slot rM 7),(slot rM 8),(slot rM 9),(slot rM 10),(slot rM 11),(slot rM 12),(slot rM 13),(slot rM 14),(slot rM 15),(slot rM 16),(slot rM 17),(slot rM 18),(slot rM 19),(slot rM 20),(slot rM 21),(slot rM 22),(slot rM 23),(slot rM 24),Ch,Ch] h) (
 dH (fun Xn=>
 uv l7 b1 Xn h) fun l50 h=>
 κ (slot l50 6) h)
theorem QI (a0:Value) (h:Heap) (κ:KQ):aK prog 318 [a0] h κ = (
 az False (Value.cells a0).toList 305 false fun o0 => an False o0 h fun b1 h=>
 fieldAddrB False 0 (ptrTo b1) h fun v2 h=>
 fieldAddrB False 2 v2 h fun v3 h=>
 load1 False v3 h fun v4 h=>
 bA False v4 h fun v5 h=>
 dP [undef,undef,undef,undef,undef,undef,undef,undef,undef,undef,undef,undef,undef,undef,undef,undef,undef,undef,undef,undef,undef,undef,undef,undef,undef,(.int .i64 (-1)),undef,(.int .i64 0)] h fun l7 h N6=>
 uw l7 v5 v4 b1 N6 h κ) := by kernel_rfl
theorem QJ (a0 a1:Value) (h:Heap) (κ:KQ):aK prog 319 [a0,a1] h κ = (
 az False (Value.cells a0).toList 81 false fun o0 => an False o0 h fun b1 h=>
 az False [(.int .i64 0),(.int .i64 0),(.slice none 0 0),(.int .i64 0)] 81 false fun o2 => an False o2 h fun b3 h=>
 aF False 4 (ptrTo b1) h fun v4 h=>
 CallW prog 287 [v4] h fun v5 h=>
 az False [(.int .i64 0),(.int .i64 0),(.slice none 0 0),(.int .i64 0)] 305 false fun o6 => an False o6 h fun b7 h=>
 aL False 4 (ptrTo b7) v5 h fun v8 h=>
 aF False 4 (ptrTo b7) h fun v9 h=>
 CallW prog 236 [v9,a1] h fun v10 h=>
 au False prog .lss 3 true false v10 (.int .i64 0) h fun v11 h=>
 ay v11 (
 bD False [] [] [(.int .i64 0),(.int .i64 0),(.slice none 0 0),(.int .i64 0)] fun ZA=>
 aL False 4 (ptrTo b3) (Value.agg (Array.mk ZA)) h fun bR h=>
 aF False 4 (ptrTo b3) h fun bV _ => κ (Value.tuple (Array.mk [bV,(.int .i64 5)])) h) (
 aF False 4 (ptrTo b7) h fun bY h=>
 CallW prog 288 [bY,a1] h fun v16 h=>
 aL False 4 (ptrTo b3) v16 h fun v17 h=>
 aF False 4 (ptrTo b3) h fun cW _ => κ (Value.tuple (Array.mk [cW,(.int .i64 0)])) h)) := by kernel_rfl
theorem QK (a0:Value) (h:Heap) (κ:KQ):aK prog 320 [a0] h κ = (
 au False prog .neq 37 true false a0 (.int .i64 0) h fun v0 h=>
 ah (aj v0 true) (fun K1=>
 K1 a0 h) h fun v2 h=>
 ah (aj v0 true) (fun K3=>
 CallW prog 73 [v2] h K3) h fun v4 h=>
 a_ False v0 v4 (.bool false) h fun v5 h=>
 κ v5 h) := by kernel_rfl
theorem QL (a0 a1 a2:Value) (h:Heap) (κ:KQ):aK prog 322 [a0,a1,a2] h κ = (
 az False (Value.cells a0).toList 83 false fun o0 => an False o0 h fun b1 h=>
 fieldAddrB False 0 (ptrTo b1) h fun v2 h=>
 load1 False v2 h fun v3 h=>
 load1 False a1 h fun v4 h=>
 au False prog .eql 3 false false v3 v4 h fun v5 h=>
 ah (aj v5 false) (fun K6=>
 fieldAddrB False 1 (ptrTo b1) h K6) h fun v7 h=>
 ah (aj v5 false) (fun K8=>
 load1 False v7 h K8) h fun v9 h=>
 ah (aj v5 false) (fun nI=>
 load1 False a2 h nI) h fun v11 h=>
 ah (aj v5 false) (fun lE=>
 au False prog .eql 3 false false v9 v11 h lE) h fun bR h=>
 a_ False v5 (.bool true) bR h fun bV h=>
 κ bV h) := by kernel_rfl
theorem QM (a0 a1:Value) (h:Heap) (κ:KQ):aK prog 334 [a0,a1] h κ = (
 az False (Value.cells a0).toList 83 false fun o0 => an False o0 h fun b1 h=>
 fieldAddrB False 0 (ptrTo b1) h fun v2 h=>
 load1 False v2 h fun v3 h=>
 fieldAddrB False 0 a1 h fun v4 h=>
 load1 False v4 h fun v5 h=>
 au False prog .neq 3 false false v3 v5 h fun v6 h=>
 ah (aj v6 true) (fun K7=>
 aF False 5 (ptrTo b1) h K7) h fun v8 h=>
 ah (aj v6 true) (fun K9=>
 CallW prog 237 [v8] h K9) h fun v10 h=>
 a_ False v6 v10 (.bool false) h fun v11 h=>
 ah (aj v11 true) (fun lE=>
 fieldAddrB False 2 (ptrTo b1) h lE) h fun bR h=>
 ah (aj v11 true) (fun pK=>
 load1 False bR h pK) h fun bY h=>
 ah (aj v11 true) (fun tR=>
 fieldAddrB False 3 a1 h tR) h fun v17 h=>
 ah (aj v11 true) (fun AH=>
 load1 False v17 h AH) h fun v19 h=>
 ah (aj v11 true) (fun II=>
 CallW prog 210 [bY,v19] h II) h fun v21 h=>
 ah (aj v11 true) (fun K22=>
 kU False .not v21 h K22) h fun v23 h=>
 a_ False v11 v23 (.bool false) h fun v24 h=>
 κ v24 h) := by kernel_rfl
theorem QN (a0:Value) (h:Heap) (κ:KQ):aK prog 335 [a0] h κ = (
 az False (Value.cells a0).toList 83 false fun o0 => an False o0 h fun b1 h=>
 aF False 5 (ptrTo b1) h fun v2 h=>
 CallW prog 237 [v2] h fun v3 h=>
 kU False .not v3 h fun v4 h=>
 κ v4 h) := by kernel_rfl
theorem QO (a0 a1 a2:Value) (h:Heap) (κ:KQ):aK prog 366 [a0,a1,a2] h κ = (
 aI (some a0) h fun v0 h=>
 aI (some a1) h fun v1 h=>
 aI (ax none 1 v0 v1 h fun v _=>some v) h fun v2 h=>
 aI (load1 none v2 h fun v _=>some v) h fun v3 h=>
 aI (some a0) h fun v4 h=>
 aI (some a2) h fun v5 h=>
 aI (ax none 1 v4 v5 h fun v _=>some v) h fun v6 h=>
 aI (load1 none v6 h fun v _=>some v) h fun v7 h=>
 aI (au none prog .lss 3 false false v3 v7 h fun v _=>some v) h fun v8 h=>
 κ v8 h) := by kernel_rfl
theorem QS (a0 a1 a2:Value) (h:Heap) (κ:KQ):aK prog 368 [a0,a1,a2] h κ = (
 aI (some a0) h fun v0 h=>
 aI (some a1) h fun v1 h=>
 aI (some a0) h fun v2 h=>
 aI (some a2) h fun v3 h=>
 aI (some a0) h fun v4 h=>
 aI (some a2) h fun v5 h=>
 aI (ax none 1 v4 v5 h fun v _=>some v) h fun v6 h=>
 aI (load1 none v6 h fun v _=>some v) h fun v7 h=>
 aI (some a0) h fun v8 h=>
 aI (some a1) h fun v9 h=>
 aI (ax none 1 v8 v9 h fun v _=>some v) h fun v10 h=>
 aI (load1 none v10 h fun v _=>some v) h fun v11 h=>
 aI (ax none 1 v0 v1 h fun v _=>some v) h fun v12 h=>
 aL False 1 v12 v7 h fun bR h=>
 dG ((gz (some a0) v2) && ((gz (some a2) v3) && true)) (aI (ax none 1 v2 v3 h fun v _=>some v) h fun bV h=>
 aL False 1 bV v11 h fun bY h=>
 κ (Value.tuple (Array.mk [])) h)) := by kernel_rfl
theorem QT (a0:Value) (h:Heap) (κ:KQ):aK prog 369 [a0] h κ = (
 aX False a0 h fun v0 h=>
 fieldAddrB False 0 v0 h fun v1 h=>
 load1 False v1 h fun v2 h=>
 CallW prog 137 [v2] h fun v3 h=>
 au False prog .sub 3 true false v3 (.int .i64 1) h fun v4 h=>
 aX False a0 h fun v5 h=>
 fieldAddrB False 0 v5 h fun v6 h=>
 load1 False v6 h fun v7 h=>
 ax False 1 v7 v4 h fun v8 h=>
 load1 False v8 h fun v9 h=>
 aX False a0 h fun v10 h=>
 fieldAddrB False 0 v10 h fun v11 h=>
 load1 False v11 h fun v12 h=>
 sliceB False 3 1 v12 none (some v4) none h fun bR h=>
 aX False a0 h fun bV h=>
 fieldAddrB False 0 bV h fun bY h=>
 aL False 1 bY bR h fun v16 h=>
 κ (Value.iface 3 v9) h) := by kernel_rfl
def Bw (a0 v1:Value) (h:Heap) (κ:KQ):Prop :=
 aX False a0 h fun v3 h=>
 fieldAddrB False 0 v3 h fun v4 h=>
 load1 False v4 h fun v5 h=>
 bD False [(0,1)] [v1] (aO [(.int .i64 0)] 1) fun Zl => az False Zl 3 false fun o6 => an False o6 h fun b7 h=>
 bE False 3 1 [(.int .i64 0)] false v5 (sliceTo 1 1 b7) h fun v9 h=>
 aX False a0 h fun v10 h=>
 fieldAddrB False 0 v10 h fun v11 h=>
 aL False 1 v11 v9 h fun v12 h=>
 κ (Value.tuple (Array.mk [])) h
theorem QU (a0 a1:Value) (h:Heap) (κ:KQ):aK prog 370 [a0,a1] h κ = (
 dM False 3 (.int .i64 0) true a1 h fun v0 h=>
 av False 0 v0 h fun v1 h=>
 av False 1 v0 h fun v2 h=>
 ay v2 (
 Bw a0 v1 h κ) (
 κ (Value.tuple (Array.mk [])) h)) := by kernel_rfl
end
end Go.Proofs
