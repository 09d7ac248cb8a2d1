/-
  PROVED HERE: a part of the proof (RZ).
-/
import Derived.Test.YtmjghbjpdoeemaaGreatDoorG3
import Derived.Test.YtmjghbjpdoeemaaGreatDoorProg
import Derived.KernelRfl
set_option linter.unusedVariables false
set_option linter.unusedSimpArgs false
set_option maxRecDepth 100000
namespace Go.Proofs
open Go.Vai
open Tryz (prog)
noncomputable section
def MY (n9:Nat) (v7:Value) (Cx:List Value→Heap→Prop) (v46 jQ jH v50 v51:Value) (bL:List Value) (v53 v54 v55 gM:Value) (h:Heap):Prop :=
 fieldAddrB False 2 (ptrTo n9) h fun v59 h=>
 aD False 2 v59 h fun v60 h=>
 fieldAddrB False 4 (ptrTo n9) h fun qp h=>
 load1 False qp h fun sX h=>
 CallW prog 21 [v7,v60,(.int .i64 1),sX] h fun oh h=>
 av False 0 oh h fun v64 h=>
 av False 1 oh h fun mX h=>
 av False 2 oh h fun v66 h=>
 au False prog .eql 26 true false v66 (.int .i64 8) h fun v67 h=>
 ay v67 (
 Cx [v46,jQ,jH,jH,v50,v51,v51,(slot bL 44),(slot bL 45),(slot bL 46),v53,v54,v55,v55,gM,gM,(slot bL 53),(slot bL 54),(slot bL 55),(slot bL 56),(slot bL 57),v7,v59,v60,qp,sX,oh,oh,v64,mX,v66,v64,mX,v66,v66,v67,(.int .i64 5)] h) (
 Cx [v46,jQ,jH,jH,v50,v51,v51,(slot bL 44),(slot bL 45),(slot bL 46),v53,v54,v55,v55,gM,gM,(slot bL 53),(slot bL 54),(slot bL 55),(slot bL 56),(slot bL 57),v7,v59,v60,qp,sX,oh,oh,v64,mX,v66,v64,mX,v66,v66,v67,(.int .i64 1)] h)
def Gp (n9:Nat) (Cx:List Value→Heap→Prop) (v46 jQ jH v50 v51:Value) (bL:List Value) (gM v7 iD:Value) (h:Heap):Prop :=
 fieldAddrB False 0 (ptrTo n9) h fun v53 h=>
 load1 False v53 h fun v54 h=>
 au False prog .eql 3 true false v54 (.int .i64 2) h fun v55 h=>
 ay v55 (
 Cx [v46,jQ,jH,jH,v50,v51,v51,(slot bL 44),(slot bL 45),(slot bL 46),v53,v54,v55,v55,(slot bL 51),(slot bL 52),(slot bL 53),(slot bL 54),(slot bL 55),(slot bL 56),(slot bL 57),(slot bL 58),(slot bL 59),(slot bL 60),(slot bL 61),(slot bL 62),(slot bL 63),(slot bL 64),(slot bL 65),(slot bL 66),(slot bL 67),(slot bL 68),(slot bL 69),(slot bL 70),(slot bL 71),(slot bL 72),(.int .i64 6)] h) (
 ay gM (
 fieldAddrB False 4 (ptrTo n9) h fun qa h=>
 load1 False qa h fun oR h=>
 CallW prog 20 [v7,iD,oR] h fun v58 h=>
 Cx [v46,jQ,jH,jH,v50,v51,v51,(slot bL 44),(slot bL 45),(slot bL 46),v53,v54,v55,v55,gM,gM,v7,iD,qa,oR,v58,(slot bL 58),(slot bL 59),(slot bL 60),(slot bL 61),(slot bL 62),(slot bL 63),(slot bL 64),(slot bL 65),(slot bL 66),(slot bL 67),(slot bL 68),(slot bL 69),(slot bL 70),(slot bL 71),(slot bL 72),(.int .i64 1)] h) (
 MY n9 v7 Cx v46 jQ jH v50 v51 bL v53 v54 v55 gM h))
def wU (n9:Nat) (gM v7 iD:Value) (Cx:List Value→Heap→Prop) (bL:List Value) (h:Heap):Prop :=
 fieldAddrB False 0 (ptrTo n9) h fun v46 h=>
 load1 False v46 h fun jQ h=>
 au False prog .eql 3 true false jQ (.int .i64 2) h fun jH h=>
 ag (ah jH true) (fun UW=>
 UW gM h) h fun v50 h=>
 bf False jH v50 (.bool false) h fun v51 h=>
 ay v51 (
 CallW prog 19 [v7,iD] h fun nR h=>
 Cx [v46,jQ,jH,jH,v50,v51,v51,v7,iD,nR,(slot bL 47),(slot bL 48),(slot bL 49),(slot bL 50),(slot bL 51),(slot bL 52),(slot bL 53),(slot bL 54),(slot bL 55),(slot bL 56),(slot bL 57),(slot bL 58),(slot bL 59),(slot bL 60),(slot bL 61),(slot bL 62),(slot bL 63),(slot bL 64),(slot bL 65),(slot bL 66),(slot bL 67),(slot bL 68),(slot bL 69),(slot bL 70),(slot bL 71),(slot bL 72),(.int .i64 1)] h) (
 Gp n9 Cx v46 jQ jH v50 v51 bL gM v7 iD h)
def wV (iP mu v37:Value) (kf:List Value) (v4 v7:Value) (n9:Nat) (DA:List Value→Heap→Prop) (a0:Value) (bL:List Value) (v16 v17 v21 v23 v24 v25 v27 fG v31 v33 gY v35 v39 v40 v41 iD gM:Value) (h:Heap) (κ:KQ):Prop :=
 jv False .not iP h fun sY h=>
 ag (ah sY false) (fun K69=>
 K69 mu h) h fun v70 h=>
 ag (ah sY false) (fun K71=>
 au False prog .neq 26 true false v70 (.int .i64 0) h K71) h fun v72 h=>
 bf False sY (.bool true) v72 h fun zn h=>
 ag (ah zn false) (fun K74=>
 K74 v37 h) h fun v75 h=>
 ag (ah zn false) (fun K76=>
 K76 (slot kf 36) h) h fun v77 h=>
 ag (ah zn false) (fun K78=>
 au False prog .neq 3 false false v75 v77 h K78) h fun v79 h=>
 bf False zn (.bool true) v79 h fun v80 h=>
 ag (ah v80 false) (fun K81=>
 K81 v4 h) h fun v82 h=>
 ag (ah v80 false) (fun K83=>
 CallW prog 23 [v82] h K83) h fun Im h=>
 ag (ah v80 false) (fun K85=>
 K85 v7 h) h fun PF h=>
 ag (ah v80 false) (fun K87=>
 CallW prog 24 [PF] h K87) h fun Kk h=>
 ag (ah v80 false) (fun K89=>
 CallW prog 22 [Im,Kk] h K89) h fun Tn h=>
 ag (ah v80 false) (fun K91=>
 jv False .not Tn h K91) h fun Zp h=>
 bf False v80 (.bool true) Zp h fun v93 h=>
 ag (ah v93 false) (fun K94=>
 fieldAddrB False 2 (ptrTo n9) h K94) h fun MZ h=>
 ag (ah v93 false) (fun K96=>
 aD False 2 MZ h K96) h fun M0 h=>
 ag (ah v93 false) (fun K98=>
 CallW prog 25 [M0] h K98) h fun M1 h=>
 ag (ah v93 false) (fun aeO=>
 au False prog .neq 26 true false M1 (.int .i64 0) h aeO) h fun M3 h=>
 bf False v93 (.bool true) M3 h fun M4 h=>
 ay M4 (
 κ (.bool false) h) (
 DA [a0,(slot bL 102),v16,v17,(ptrTo n9),v21,v23,v24,v25,v25,v27,fG,v31,v33,gY,v4,v35,v35,iP,v37,mu,iP,v37,mu,v7,v39,v40,v41,v41,iD,gM,iD,gM,(slot kf 0),(slot kf 1),(slot kf 2),(slot kf 3),(slot kf 4),(slot kf 5),(slot kf 6),(slot kf 7),(slot kf 8),(slot kf 9),(slot kf 10),(slot kf 11),(slot kf 12),(slot kf 13),(slot kf 14),(slot kf 15),(slot kf 16),(slot kf 17),(slot kf 18),(slot kf 19),(slot kf 20),(slot kf 21),(slot kf 22),(slot kf 23),(slot kf 24),(slot kf 25),(slot kf 26),(slot kf 27),(slot kf 28),(slot kf 29),(slot kf 30),(slot kf 31),(slot kf 32),(slot kf 33),(slot kf 34),(slot kf 35),(slot kf 36),iP,sY,sY,v70,v72,zn,zn,v75,v77,v79,v80,v80,v82,Im,PF,Kk,Tn,Zp,v93,v93,MZ,M0,M1,M3,M4,(slot bL 99)] h)
def M5 (v4:Value) (n9:Nat) (v7:Value) (bL:List Value) (DA:List Value→Heap→Prop) (a0 v16 v17 v21 v23 v24 v25 v27 fG v31 v33 gY:Value) (h:Heap) (κ:KQ):Prop :=
 CallW prog 17 [v4,(.int .i64 0),(.int .i64 3)] h fun v35 h=>
 av False 0 v35 h fun iP h=>
 av False 1 v35 h fun v37 h=>
 av False 2 v35 h fun mu h=>
 fieldAddrB False 2 (ptrTo n9) h fun v39 h=>
 aD False 2 v39 h fun v40 h=>
 CallW prog 18 [v7,v40,(.int .i64 1)] h fun v41 h=>
 av False 0 v41 h fun iD h=>
 av False 1 v41 h fun gM h=>
 dD (fun Cx=>
 wU n9 gM v7 iD Cx bL h) fun kf h=>
 wV iP mu v37 kf v4 v7 n9 DA a0 bL v16 v17 v21 v23 v24 v25 v27 fG v31 v33 gY v35 v39 v40 v41 iD gM h κ
def Gq (a0:Value) (bL:List Value) (v4:Value) (DA:List Value→Heap→Prop) (v7:Value) (h:Heap) (κ:KQ):Prop :=
 aq False 7 a0 (slot bL 102) h fun v16 h=>
 aD False 7 v16 h fun v17 h=>
 ax False [(.int .i64 0),(.int .i64 0),(.int .i64 0),(.int .i64 0),(.int .i64 0),(.int .i64 0),(.int .i64 0)] 39 false fun o18 => aj False o18 h fun n9 h=>
 aI False 7 (ptrTo n9) v17 h fun v20 h=>
 fieldAddrB False 1 (ptrTo n9) h fun v21 h=>
 aI False 1 v21 (.int .i64 1) h fun v22 h=>
 fieldAddrB False 0 (ptrTo n9) h fun v23 h=>
 load1 False v23 h fun v24 h=>
 au False prog .eql 3 true false v24 (.int .i64 3) h fun v25 h=>
 ag (ah v25 false) (fun Bs=>
 Bs v4 h) h fun v27 h=>
 ag (ah v25 false) (fun DB=>
 aD False 7 (ptrTo n9) h DB) h fun fG h=>
 ag (ah v25 false) (fun Gr=>
 CallW prog 16 [v27,(.int .i64 0),fG] h Gr) h fun v31 h=>
 ag (ah v25 false) (fun QJ=>
 au False prog .neq 26 true false v31 (.int .i64 0) h QJ) h fun v33 h=>
 bf False v25 (.bool true) v33 h fun gY h=>
 ay gY (
 DA [a0,(slot bL 102),v16,v17,(ptrTo n9),v21,v23,v24,v25,v25,v27,fG,v31,v33,gY,(slot bL 19),(slot bL 20),(slot bL 21),(slot bL 22),(slot bL 23),(slot bL 24),(slot bL 25),(slot bL 26),(slot bL 27),(slot bL 28),(slot bL 29),(slot bL 30),(slot bL 31),(slot bL 32),(slot bL 33),(slot bL 34),(slot bL 35),(slot bL 36),(slot bL 37),(slot bL 38),(slot bL 39),(slot bL 40),(slot bL 41),(slot bL 42),(slot bL 43),(slot bL 44),(slot bL 45),(slot bL 46),(slot bL 47),(slot bL 48),(slot bL 49),(slot bL 50),(slot bL 51),(slot bL 52),(slot bL 53),(slot bL 54),(slot bL 55),(slot bL 56),(slot bL 57),(slot bL 58),(slot bL 59),(slot bL 60),(slot bL 61),(slot bL 62),(slot bL 63),(slot bL 64),(slot bL 65),(slot bL 66),(slot bL 67),(slot bL 68),(slot bL 69),(slot bL 70),(slot bL 71),(slot bL 72),(slot bL 73),(slot bL 74),(slot bL 75),(slot bL 76),(slot bL 77),(slot bL 78),(slot bL 79),(slot bL 80),(slot bL 81),(slot bL 82),(slot bL 83),(slot bL 84),(slot bL 85),(slot bL 86),(slot bL 87),(slot bL 88),(slot bL 89),(slot bL 90),(slot bL 91),(slot bL 92),(slot bL 93),(slot bL 94),(slot bL 95),(slot bL 96),(slot bL 97),(slot bL 98),(slot bL 99)] h) (
 M5 v4 n9 v7 bL DA a0 v16 v17 v21 v23 v24 v25 v27 fG v31 v33 gY h κ)
def Gs (a0:Value) (bL:List Value) (v4 v7:Value) (QK:List Value→Heap→Prop) (h:Heap) (κ:KQ):Prop :=
 br False a0 h fun v12 h=>
 au False prog .lss 3 false false (slot bL 102) v12 h fun bI h=>
 ay bI (
 dD (fun DA=>
 Gq a0 bL v4 DA v7 h κ) fun dX h=>
 au False prog .add 3 true false (slot bL 102) (.int .i64 1) h fun QL h=>
 QK [(slot bL 102),a0,v12,bI,(slot dX 0),(slot dX 1),(slot dX 2),(slot dX 3),(slot dX 4),(slot dX 5),(slot dX 6),(slot dX 7),(slot dX 8),(slot dX 9),(slot dX 10),(slot dX 11),(slot dX 12),(slot dX 13),(slot dX 14),(slot dX 15),(slot dX 16),(slot dX 17),(slot dX 18),(slot dX 19),(slot dX 20),(slot dX 21),(slot dX 22),(slot dX 23),(slot dX 24),(slot dX 25),(slot dX 26),(slot dX 27),(slot dX 28),(slot dX 29),(slot dX 30),(slot dX 31),(slot dX 32),(slot dX 33),(slot dX 34),(slot dX 35),(slot dX 36),(slot dX 37),(slot dX 38),(slot dX 39),(slot dX 40),(slot dX 41),(slot dX 42),(slot dX 43),(slot dX 44),(slot dX 45),(slot dX 46),(slot dX 47),(slot dX 48),(slot dX 49),(slot dX 50),(slot dX 51),(slot dX 52),(slot dX 53),(slot dX 54),(slot dX 55),(slot dX 56),(slot dX 57),(slot dX 58),(slot dX 59),(slot dX 60),(slot dX 61),(slot dX 62),(slot dX 63),(slot dX 64),(slot dX 65),(slot dX 66),(slot dX 67),(slot dX 68),(slot dX 69),(slot dX 70),(slot dX 71),(slot dX 72),(slot dX 73),(slot dX 74),(slot dX 75),(slot dX 76),(slot dX 77),(slot dX 78),(slot dX 79),(slot dX 80),(slot dX 81),(slot dX 82),(slot dX 83),(slot dX 84),(slot dX 85),(slot dX 86),(slot dX 87),(slot dX 88),(slot dX 89),(slot dX 90),(slot dX 91),(slot dX 92),(slot dX 93),(slot dX 94),(slot dX 95),(slot bL 102),QL,QL] h) (
 κ (.bool true) h)
def M6 (a0:Value) (h:Heap) (κ:KQ):Prop :=
 CallW prog 10 [(.int .i64 1)] h fun v4 h=>
 CallW prog 9 [] h fun v5 h=>
 CallW prog 8 [v5] h fun v6 h=>
 av False 0 v6 h fun v7 h=>
 av False 1 v6 h fun v8 h=>
 au False prog .neq 26 true false v8 (.int .i64 0) h fun v9 h=>
 ay v9 (
 κ (.bool false) h) (
 b6 [undef,undef,undef,undef,undef,undef,undef,undef,undef,undef,undef,undef,undef,undef,undef,undef,undef,undef,undef,undef,undef,undef,undef,undef,undef,undef,undef,undef,undef,undef,undef,undef,undef,undef,undef,undef,undef,undef,undef,undef,undef,undef,undef,undef,undef,undef,undef,undef,undef,undef,undef,undef,undef,undef,undef,undef,undef,undef,undef,undef,undef,undef,undef,undef,undef,undef,undef,undef,undef,undef,undef,undef,undef,undef,undef,undef,undef,undef,undef,undef,undef,undef,undef,undef,undef,undef,undef,undef,undef,undef,undef,undef,undef,undef,undef,undef,undef,undef,undef,(.bool false),undef,undef,(.int .i64 0)] h fun bL h QK=>
 Gs a0 bL v4 v7 QK h κ)
theorem aeP (a0:Value) (h:Heap) (κ:KQ):aM prog 4 [a0] h κ = (
 CallW prog 7 [] h fun v0 h=>
 jv False .not v0 h fun v1 h=>
 ay v1 (
 κ (.bool false) h) (
 br False a0 h fun v2 h=>
 au False prog .gtr 3 true false v2 (.int .i64 40) h fun v3 h=>
 ay v3 (
 κ (.bool true) h) (
 M6 a0 h κ))) := by kernel_rfl
def M7 (v0:Value) (h:Heap) (κ:KQ):Prop :=
 CallW prog 17 [v0,(.int .i64 0),(.int .i64 3)] h fun bI h=>
 av False 0 bI h fun bO h=>
 av False 1 bI h fun bN h=>
 av False 2 bI h fun v16 h=>
 ag (ah bO true) (fun M8=>
 M8 bN h) h fun bR h=>
 ag (ah bO true) (fun Bt=>
 au False prog .eql 3 true false bR (.int .i64 1) h Bt) h fun v20 h=>
 bf False bO v20 (.bool false) h fun v21 h=>
 ag (ah v21 true) (fun K22=>
 K22 v16 h) h fun v23 h=>
 ag (ah v21 true) (fun DC=>
 au False prog .eql 26 true false v23 (.int .i64 0) h DC) h fun v25 h=>
 bf False v21 v25 (.bool false) h fun v26 h=>
 κ v26 h
theorem aeQ (h:Heap) (κ:KQ):aM prog 7 [] h κ = (
 CallW prog 10 [(.int .i64 2)] h fun v0 h=>
 au False prog .eql 32 true false v0 (.pointer none) h fun v1 h=>
 ag (ah v1 false) (fun K2=>
 K2 v0 h) h fun v3 h=>
 ag (ah v1 false) (fun K4=>
 CallW prog 27 [(.int .i64 0)] h K4) h fun v5 h=>
 ag (ah v1 false) (fun K6=>
 CallW prog 28 [(.int .i64 1),v5,(.int .i64 6)] h K6) h fun v7 h=>
 ag (ah v1 false) (fun K8=>
 CallW prog 16 [v3,(.int .i64 0),v7] h K8) h fun v9 h=>
 ag (ah v1 false) (fun oS=>
 au False prog .neq 26 true false v9 (.int .i64 0) h oS) h fun v11 h=>
 bf False v1 (.bool true) v11 h fun v12 h=>
 ay v12 (
 κ (.bool false) h) (
 M7 v0 h κ)) := by kernel_rfl
def M9 (b1:Nat) (oR:Value) (UX:Nat) (Yp:List Value) (N63:List Value→Heap→Prop) (mX v66 v67:Value) (h:Heap):Prop :=
 fieldAddrB False 1 (ptrTo b1) h fun sY h=>
 load1 False sY h fun zo h=>
 CallW prog 38 [zo,oR] h fun v70 h=>
 av False 0 v70 h fun ru h=>
 av False 1 v70 h fun v72 h=>
 aV False (ptrTo UX) h fun zn h=>
 fieldAddrB False 4 zn h fun zp h=>
 load1 False zp h fun v75 h=>
 bC False [(0,1)] [ru] (aU [(.pointer none)] 1) fun aeS => ax False aeS 91 false fun o76 => aj False o76 h fun b77 h=>
 bu False 91 1 [(.pointer none)] false v75 (sliceTo 1 1 b77) h fun v79 h=>
 aV False (ptrTo UX) h fun v80 h=>
 fieldAddrB False 4 v80 h fun Gt h=>
 aI False 1 Gt v79 h fun v82 h=>
 au False prog .add 3 true false (slot Yp 25) (.int .i64 1) h fun Gu h=>
 N63 [(slot Yp 25),mX,v66,v67,sY,zo,oR,v70,v70,ru,v72,ru,v72,(ptrTo UX),(ptrTo UX),zn,zp,v75,ru,(sliceTo 1 1 b77),v79,v80,Gt,(slot Yp 25),Gu,Gu] h
def M_ (b1:Nat) (h:Heap) (κ:KQ):Prop :=
 fieldAddrB False 2 (ptrTo b1) h fun v54 h=>
 load1 False v54 h fun v55 h=>
 CallW prog 37 [v55] h fun qa h=>
 av False 0 qa h fun oR h=>
 av False 1 qa h fun v58 h=>
 aD False 4 (ptrTo b1) h fun v59 h=>
 bC False [(0,4),(5,1)] [v59,oR] [(.int .i64 0),(.int .i64 0),(.int .i64 0),(.int .i64 0),(.slice none 0 0),(.pointer none)] fun aeT=>
 ax False (Value.cells (Value.agg (Array.mk aeT))).toList 90 false fun o61 => aj False o61 h fun UX h=>
 b6 [undef,undef,undef,undef,undef,undef,undef,undef,undef,undef,undef,undef,undef,undef,undef,undef,undef,undef,undef,undef,undef,undef,undef,undef,undef,(.int .i64 0)] h fun Yp h N63=>
 fieldAddrB False 0 (ptrTo b1) h fun mX h=>
 load1 False mX h fun v66 h=>
 au False prog .lss 3 false false (slot Yp 25) v66 h fun v67 h=>
 ay v67 (
 M9 b1 oR UX Yp N63 mX v66 v67 h) (
 κ (Value.tuple (Array.mk [(ptrTo UX),(.int .i64 0)])) h)
theorem aeU (a0:Value) (h:Heap) (κ:KQ):aM prog 8 [a0] h κ = (
 ax False (Value.cells a0).toList 30 false fun o0 => aj False o0 h fun b1 h=>
 fieldAddrB False 0 (ptrTo b1) h fun v2 h=>
 load1 False v2 h fun v3 h=>
 au False prog .lss 3 true false v3 (.int .i64 1) h fun v4 h=>
 ag (ah v4 false) (fun K5=>
 fieldAddrB False 0 (ptrTo b1) h K5) h fun v6 h=>
 ag (ah v4 false) (fun K7=>
 load1 False v6 h K7) h fun v8 h=>
 ag (ah v4 false) (fun K9=>
 au False prog .gtr 3 true false v8 (.int .i64 16) h K9) h fun v10 h=>
 bf False v4 (.bool true) v10 h fun v11 h=>
 ag (ah v11 false) (fun mN=>
 fieldAddrB False 1 (ptrTo b1) h mN) h fun bI h=>
 ag (ah v11 false) (fun ry=>
 load1 False bI h ry) h fun bN h=>
 ag (ah v11 false) (fun uS=>
 au False prog .lss 3 true false bN (.int .i64 1) h uS) h fun v17 h=>
 bf False v11 (.bool true) v17 h fun bR h=>
 ag (ah bR false) (fun Bt=>
 fieldAddrB False 1 (ptrTo b1) h Bt) h fun v20 h=>
 ag (ah bR false) (fun DD=>
 load1 False v20 h DD) h fun v22 h=>
 ag (ah bR false) (fun DE=>
 au False prog .gtr 3 true false v22 (.int .i64 64) h DE) h fun v24 h=>
 bf False bR (.bool true) v24 h fun v25 h=>
 ag (ah v25 false) (fun Bs=>
 fieldAddrB False 2 (ptrTo b1) h Bs) h fun v27 h=>
 ag (ah v25 false) (fun DB=>
 load1 False v27 h DB) h fun fG h=>
 ag (ah v25 false) (fun Gr=>
 au False prog .lss 3 true false fG (.int .i64 1) h Gr) h fun v31 h=>
 bf False v25 (.bool true) v31 h fun v32 h=>
 ag (ah v32 false) (fun Kl=>
 fieldAddrB False 2 (ptrTo b1) h Kl) h fun gY h=>
 ag (ah v32 false) (fun QM=>
 load1 False gY h QM) h fun iP h=>
 ag (ah v32 false) (fun QN=>
 au False prog .gtr 3 true false iP (.int .i64 128) h QN) h fun mu h=>
 bf False v32 (.bool true) mu h fun v39 h=>
 ag (ah v39 false) (fun QO=>
 fieldAddrB False 3 (ptrTo b1) h QO) h fun v41 h=>
 ag (ah v39 false) (fun QS=>
 load1 False v41 h QS) h fun gM h=>
 ag (ah v39 false) (fun QT=>
 au False prog .lss 3 true false gM (.int .i64 0) h QT) h fun v45 h=>
 bf False v39 (.bool true) v45 h fun v46 h=>
 ag (ah v46 false) (fun Zq=>
 fieldAddrB False 3 (ptrTo b1) h Zq) h fun jH h=>
 ag (ah v46 false) (fun UW=>
 load1 False jH h UW) h fun v50 h=>
 ag (ah v46 false) (fun Zr=>
 au False prog .gtr 3 true false v50 (.int .i64 8) h Zr) h fun nR h=>
 bf False v46 (.bool true) nR h fun v53 h=>
 ay v53 (
 κ (Value.tuple (Array.mk [(.pointer none),(.int .i64 2)])) h) (
 M_ b1 h κ)) := by kernel_rfl
theorem aeV (h:Heap) (κ:KQ):aM prog 9 [] h κ = (
 ax False [(.int .i64 0),(.int .i64 0),(.int .i64 0),(.int .i64 0)] 30 false fun o0 => aj False o0 h fun b1 h=>
 bC False [(0,1),(1,1),(2,1),(3,1)] [(.int .i64 2),(.int .i64 8),(.int .i64 24),(.int .i64 2)] [(.int .i64 0),(.int .i64 0),(.int .i64 0),(.int .i64 0)] fun QU=>
 aI False 4 (ptrTo b1) (Value.agg (Array.mk QU)) h fun v3 h=>
 aD False 4 (ptrTo b1) h fun v4 _ => κ v4 h) := by kernel_rfl
theorem Zs (a0:Value) (h:Heap) (κ:KQ):aM prog 10 [a0] h κ = (
 CallW prog 9 [] h fun v0 h=>
 CallW prog 39 [v0,a0] h fun v1 h=>
 av False 0 v1 h fun v2 h=>
 av False 1 v1 h fun v3 h=>
 au False prog .neq 26 true false v3 (.int .i64 0) h fun v4 h=>
 ay v4 (
 κ (.pointer none) h) (
 κ v2 h)) := by kernel_rfl
def si (a0 a1:Value) (h:Heap) (κ:KQ):Prop :=
 aV False a0 h fun v5 h=>
 fieldAddrB False 4 v5 h fun v6 h=>
 load1 False v6 h fun v7 h=>
 aq False 1 v7 a1 h fun v8 h=>
 load1 False v8 h fun v9 h=>
 aV False v9 h fun v10 h=>
 fieldAddrB False 11 v10 h fun v11 h=>
 load1 False v11 h fun v12 h=>
 jC prog v12 [] h fun bI h=>
 aV False v9 h fun bO h=>
 fieldAddrB False 17 bO h fun bN h=>
 load1 False bN h fun v16 h=>
 jv False .not v16 h fun v17 h=>
 ay v17 (
 κ (Value.tuple (Array.mk [(.bool false),(.int .i64 0),(.int .i64 0)])) h) (
 aH (some v9) h fun bR h=>
 aH (aV none bR h fun v _=>some v) h fun v19 h=>
 aH (fieldAddrB none 16 v19 h fun v _=>some v) h fun v20 h=>
 aH (load1 none v20 h fun v _=>some v) h fun v21 h=>
 dM ((gz (some v9) bR) && ((gz (aV none bR h fun v _=>some v) v19) && ((gz (fieldAddrB none 16 v19 h fun v _=>some v) v20) && ((gz (load1 none v20 h fun v _=>some v) v21) && true)))) (κ (Value.tuple (Array.mk [(.bool true),v21,(.int .i64 0)])) h))
def sj (a0 a1:Value) (h:Heap) (κ:KQ):Prop :=
 CallW prog 41 [a0,a1] h fun v1 h=>
 jv False .not v1 h fun v2 h=>
 ay v2 (
 κ (Value.tuple (Array.mk [(.bool false),(.int .i64 0),(.int .i64 2)])) h) (
 CallW prog 31 [a0,a1] h fun v3 h=>
 jv False .not v3 h fun v4 h=>
 ay v4 (
 κ (Value.tuple (Array.mk [(.bool false),(.int .i64 0),(.int .i64 7)])) h) (
 si a0 a1 h κ))
theorem Io (a0 a1:Value) (h:Heap) (κ:KQ):aM prog 14 [a0,a1] h κ = (
 au False prog .eql 32 true false a0 (.pointer none) h fun v0 h=>
 ay v0 (
 κ (Value.tuple (Array.mk [(.bool false),(.int .i64 0),(.int .i64 1)])) h) (
 sj a0 a1 h κ)) := by kernel_rfl
theorem Zt (a0 a1:Value) (h:Heap) (κ:KQ):aM prog 15 [a0,a1] h κ = (
 ax False (Value.cells a1).toList 36 false fun o0 => aj False o0 h fun b1 h=>
 aH (aD none 2 (ptrTo b1) h fun v _=>some v) h fun v2 h=>
 aH (some a0) h fun v3 h=>
 aH (aV none v3 h fun v _=>some v) h fun v4 h=>
 aH (fieldAddrB none 0 v4 h fun v _=>some v) h fun v5 h=>
 aH (fieldAddrB none 0 v5 h fun v _=>some v) h fun v6 h=>
 aH (load1 none v6 h fun v _=>some v) h fun v7 h=>
 CallW prog 42 [v2,v7] h fun v8 h=>
 κ v8 h) := by kernel_rfl
def Ip (b1:Nat) (a0 a1:Value) (h:Heap) (κ:KQ):Prop :=
 aH (aD none 7 (ptrTo b1) h fun v _=>some v) h fun bR h=>
 aH (some a0) h fun v19 h=>
 aH (some a1) h fun v20 h=>
 aH (some a0) h fun v21 h=>
 aH (aV none v21 h fun v _=>some v) h fun v22 h=>
 aH (fieldAddrB none 6 v22 h fun v _=>some v) h fun v23 h=>
 aH (load1 none v23 h fun v _=>some v) h fun v24 h=>
 aH (some a0) h fun v25 h=>
 aH (aV none v25 h fun v _=>some v) h fun v26 h=>
 aH (fieldAddrB none 0 v26 h fun v _=>some v) h fun v27 h=>
 aH (load1 none v27 h fun v _=>some v) h fun v28 h=>
 aH (fieldAddrB none 2 (ptrTo b1) h fun v _=>some v) h fun fG h=>
 aH (aD none 2 fG h fun v _=>some v) h fun v30 h=>
 CallW prog 44 [v28,v30] h fun v31 h=>
 dM ((gz (aD none 7 (ptrTo b1) h fun v _=>some v) bR) && ((gz (some a0) v19) && ((gz (some a1) v20) && ((gz (some a0) v21) && ((gz (aV none v21 h fun v _=>some v) v22) && ((gz (fieldAddrB none 6 v22 h fun v _=>some v) v23) && ((gz (load1 none v23 h fun v _=>some v) v24) && true))))))) (aH (bC none [(0,7),(7,1),(8,1),(9,1),(10,1)] [bR,v19,v20,v24,v31] [(.int .i64 0),(.int .i64 0),(.int .i64 0),(.int .i64 0),(.int .i64 0),(.int .i64 0),(.int .i64 0),(.pointer none),(.int .i64 0),(.int .i64 0),(.int .i64 0),Value.nilFunc,(.int .i64 0),(.bool false),(.int .i64 0),(.int .i64 0),(.int .i64 0),(.bool false),(.slice none 0 0)] fun cs => some (Value.agg (Array.mk cs))) h fun v32 h=>
 J7 (ax none (Value.cells v32).toList 99 false fun o => some (o,ptrTo)) h fun v33 h=>
 CallW prog 45 [v33,(.int .i64 1),(Value.func (.func 46) (Array.mk [v33]) (Array.mk []))] h fun gY h=>
 aV False a0 h fun v35 h=>
 fieldAddrB False 6 v35 h fun iP h=>
 load1 False iP h fun v37 h=>
 au False prog .add 3 true false v37 (.int .i64 1) h fun mu h=>
 aV False a0 h fun v39 h=>
 fieldAddrB False 6 v39 h fun v40 h=>
 aI False 1 v40 mu h fun v41 h=>
 aV False a0 h fun iD h=>
 fieldAddrB False 4 iD h fun gM h=>
 load1 False gM h fun v44 h=>
 aq False 1 v44 a1 h fun v45 h=>
 aI False 1 v45 v33 h fun v46 h=>
 κ (.int .i64 0) h)
def Iq (a0 a1:Value) (b1:Nat) (h:Heap) (κ:KQ):Prop :=
 aV False a0 h fun v12 h=>
 fieldAddrB False 4 v12 h fun bI h=>
 load1 False bI h fun bO h=>
 aq False 1 bO a1 h fun bN h=>
 load1 False bN h fun v16 h=>
 au False prog .neq 96 true false v16 (.pointer none) h fun v17 h=>
 ay v17 (
 κ (.int .i64 7) h) (
 Ip b1 a0 a1 h κ)
def Ir (a0 a1:Value) (b1:Nat) (h:Heap) (κ:KQ):Prop :=
 CallW prog 41 [a0,a1] h fun v3 h=>
 jv False .not v3 h fun v4 h=>
 ag (ah v4 false) (fun K5=>
 aD False 7 (ptrTo b1) h K5) h fun v6 h=>
 ag (ah v4 false) (fun K7=>
 CallW prog 43 [v6] h K7) h fun v8 h=>
 ag (ah v4 false) (fun K9=>
 jv False .not v8 h K9) h fun v10 h=>
 bf False v4 (.bool true) v10 h fun v11 h=>
 ay v11 (
 κ (.int .i64 2) h) (
 Iq a0 a1 b1 h κ)
theorem Zu (a0 a1 a2:Value) (h:Heap) (κ:KQ):aM prog 16 [a0,a1,a2] h κ = (
 ax False (Value.cells a2).toList 39 false fun o0 => aj False o0 h fun b1 h=>
 au False prog .eql 32 true false a0 (.pointer none) h fun v2 h=>
 ay v2 (
 κ (.int .i64 1) h) (
 Ir a0 a1 b1 h κ)) := by kernel_rfl
def nG (l1:List Value) (a2 a0 a1:Value) (N0:List Value→Heap→Prop) (h:Heap) (κ:KQ):Prop :=
 au False prog .lss 3 false false (slot l1 15) a2 h fun v2 h=>
 ay v2 (
 CallW prog 14 [a0,a1] h fun v3 h=>
 av False 0 v3 h fun v4 h=>
 av False 1 v3 h fun v5 h=>
 av False 2 v3 h fun v6 h=>
 au False prog .add 3 true false (slot l1 15) (.int .i64 1) h fun v7 h=>
 N0 [(slot l1 15),a2,v2,a0,a1,v3,v3,v4,v5,v6,v4,v5,v6,(slot l1 15),v7,v7] h) (
 κ (Value.tuple (Array.mk [(slot l1 10),(slot l1 11),(slot l1 12)])) h)
theorem Na (a0 a1 a2:Value) (h:Heap) (κ:KQ):aM prog 17 [a0,a1,a2] h κ = (
 b6 [undef,undef,undef,undef,undef,undef,undef,undef,undef,undef,(.bool false),(.int .i64 0),(.int .i64 0),undef,undef,(.int .i64 0)] h fun l1 h N0=>
 nG l1 a2 a0 a1 N0 h κ) := by kernel_rfl
def Is (a0 v3:Value) (b1:Nat) (a2:Value) (h:Heap) (κ:KQ):Prop :=
 aH (some a0) h fun v5 h=>
 aH (aV none v5 h fun v _=>some v) h fun v6 h=>
 aH (fieldAddrB none 4 v6 h fun v _=>some v) h fun v7 h=>
 aH (load1 none v7 h fun v _=>some v) h fun v8 h=>
 aH (some v3) h fun v9 h=>
 aH (aq none 1 v8 v9 h fun v _=>some v) h fun v10 h=>
 aH (load1 none v10 h fun v _=>some v) h fun v11 h=>
 aH (aD none 2 (ptrTo b1) h fun v _=>some v) h fun v12 h=>
 aH (some a2) h fun bI h=>
 CallW prog 47 [v11,v12,bI] h fun bO h=>
 aH (av none 0 bO h fun v _=>some v) h fun bN h=>
 aH (av none 1 bO h fun v _=>some v) h fun v16 h=>
 κ (Value.tuple (Array.mk [bN,v16])) h
theorem Zv (a0 a1 a2:Value) (h:Heap) (κ:KQ):aM prog 18 [a0,a1,a2] h κ = (
 ax False (Value.cells a1).toList 36 false fun o0 => aj False o0 h fun b1 h=>
 aD False 2 (ptrTo b1) h fun v2 h=>
 CallW prog 15 [a0,v2] h fun v3 h=>
 au False prog .lss 3 true false v3 (.int .i64 0) h fun v4 h=>
 ay v4 (
 κ (Value.tuple (Array.mk [(.int .i64 0),(.bool false)])) h) (
 Is a0 v3 b1 a2 h κ)) := by kernel_rfl
theorem Zw (a0 a1:Value) (h:Heap) (κ:KQ):aM prog 19 [a0,a1] h κ = (
 CallW prog 48 [a0,a1] h fun v0 h=>
 au False prog .eql 91 true false v0 (.pointer none) h fun v1 h=>
 ay v1 (
 κ (Value.tuple (Array.mk [(.slice none 0 0),(.int .i64 5)])) h) (
 CallW prog 49 [v0,a1] h fun v2 h=>
 av False 0 v2 h fun v3 h=>
 av False 1 v2 h fun v4 h=>
 κ (Value.tuple (Array.mk [v3,v4])) h)) := by kernel_rfl
def Iu (a0 a1 a2:Value) (h:Heap) (κ:KQ):Prop :=
 CallW prog 48 [a0,a1] h fun v8 h=>
 au False prog .eql 91 true false v8 (.pointer none) h fun v9 h=>
 ay v9 (
 κ (Value.tuple (Array.mk [(.bool false),(.int .i64 5)])) h) (
 CallW prog 51 [v8,a1,a2] h fun v10 h=>
 av False 0 v10 h fun v11 h=>
 av False 1 v10 h fun v12 h=>
 κ (Value.tuple (Array.mk [v11,v12])) h)
theorem Zx (a0 a1 a2:Value) (h:Heap) (κ:KQ):aM prog 20 [a0,a1,a2] h κ = (
 au False prog .eql 37 true false a2 (.int .i64 0) h fun v0 h=>
 ag (ah v0 false) (fun K1=>
 K1 a2 h) h fun v2 h=>
 ag (ah v0 false) (fun K3=>
 CallW prog 50 [v2] h K3) h fun v4 h=>
 ag (ah v0 false) (fun K5=>
 jv False .not v4 h K5) h fun v6 h=>
 bf False v0 (.bool true) v6 h fun v7 h=>
 ay v7 (
 κ (Value.tuple (Array.mk [(.bool false),(.int .i64 2)])) h) (
 Iu a0 a1 a2 h κ)) := by kernel_rfl
def Iv (a0 v3:Value) (b1:Nat) (a2 a3:Value) (h:Heap) (κ:KQ):Prop :=
 aH (some a0) h fun v5 h=>
 aH (aV none v5 h fun v _=>some v) h fun v6 h=>
 aH (fieldAddrB none 4 v6 h fun v _=>some v) h fun v7 h=>
 aH (load1 none v7 h fun v _=>some v) h fun v8 h=>
 aH (some v3) h fun v9 h=>
 aH (aq none 1 v8 v9 h fun v _=>some v) h fun v10 h=>
 aH (load1 none v10 h fun v _=>some v) h fun v11 h=>
 aH (aD none 2 (ptrTo b1) h fun v _=>some v) h fun v12 h=>
 aH (some a2) h fun bI h=>
 aH (some a3) h fun bO h=>
 CallW prog 52 [v11,v12,bI,bO] h fun bN h=>
 aH (av none 0 bN h fun v _=>some v) h fun v16 h=>
 aH (av none 1 bN h fun v _=>some v) h fun v17 h=>
 aH (av none 2 bN h fun v _=>some v) h fun bR h=>
 κ (Value.tuple (Array.mk [v16,v17,bR])) h
theorem Zy (a0 a1 a2 a3:Value) (h:Heap) (κ:KQ):aM prog 21 [a0,a1,a2,a3] h κ = (
 ax False (Value.cells a1).toList 36 false fun o0 => aj False o0 h fun b1 h=>
 aD False 2 (ptrTo b1) h fun v2 h=>
 CallW prog 15 [a0,v2] h fun v3 h=>
 au False prog .lss 3 true false v3 (.int .i64 0) h fun v4 h=>
 ay v4 (
 κ (Value.tuple (Array.mk [(.int .i64 0),(.bool false),(.int .i64 2)])) h) (
 Iv a0 v3 b1 a2 a3 h κ)) := by kernel_rfl
def Iw (a0:Value) (l4:List Value) (a1:Value) (N3:List Value→Heap→Prop) (v5 v6:Value) (h:Heap) (κ:KQ):Prop :=
 aH (some a0) h fun v7 h=>
 aH (some (slot l4 16)) h fun v8 h=>
 aH (aq none 4 v7 v8 h fun v _=>some v) h fun v9 h=>
 aH (aD none 4 v9 h fun v _=>some v) h fun v10 h=>
 aH (some a1) h fun v11 h=>
 aH (some (slot l4 16)) h fun v12 h=>
 aH (aq none 4 v11 v12 h fun v _=>some v) h fun bI h=>
 aH (aD none 4 bI h fun v _=>some v) h fun bO h=>
 aH (au none prog .neq 60 false false v10 bO h fun v _=>some v) h fun bN h=>
 ay bN (
 κ (.bool false) h) (
 au False prog .add 3 true false (slot l4 16) (.int .i64 1) h fun v16 h=>
 N3 [(slot l4 16),a0,v5,v6,v7,v8,v9,v10,v11,v12,bI,bO,bN,(slot l4 13),(slot l4 16),v16,v16] h)
theorem Zz (a0 a1:Value) (h:Heap) (κ:KQ):aM prog 22 [a0,a1] h κ = (
 br False a0 h fun v0 h=>
 br False a1 h fun v1 h=>
 au False prog .neq 3 false false v0 v1 h fun v2 h=>
 ay v2 (
 κ (.bool false) h) (
 b6 [undef,undef,undef,undef,undef,undef,undef,undef,undef,undef,undef,undef,undef,(.bool false),undef,undef,(.int .i64 0)] h fun l4 h N3=>
 br False a0 h fun v5 h=>
 au False prog .lss 3 false false (slot l4 16) v5 h fun v6 h=>
 ay v6 (
 Iw a0 l4 a1 N3 v5 v6 h κ) (
 κ (.bool true) h))) := by kernel_rfl
theorem ZA (a0:Value) (h:Heap) (κ:KQ):aM prog 23 [a0] h κ = (
 au False prog .eql 32 true false a0 (.pointer none) h fun v0 h=>
 ay v0 (
 κ (.slice none 0 0) h) (
 aV False a0 h fun v1 h=>
 fieldAddrB False 0 v1 h fun v2 h=>
 load1 False v2 h fun v3 h=>
 CallW prog 53 [v3] h fun v4 h=>
 κ v4 h)) := by kernel_rfl
def Ix (v0:Value) (l2:List Value) (l6:List Value) (N5:List Value→Heap→Prop) (v7 v8 v9 v10 v11:Value) (h:Heap):Prop :=
 aq False 4 v0 (slot l2 29) h fun v12 h=>
 fieldAddrB False 2 v12 h fun bI h=>
 load1 False bI h fun bO h=>
 aq False 5 bO (slot l6 22) h fun bN h=>
 fieldAddrB False 1 bN h fun v16 h=>
 load1 False v16 h fun v17 h=>
 CallW prog 55 [(slot l6 19),v17] h fun bR h=>
 au False prog .add 3 true false (slot l6 22) (.int .i64 1) h fun v19 h=>
 N5 [(slot l6 22),v0,(slot l2 29),v7,v8,v9,v10,v11,(slot l6 19),v0,(slot l2 29),v12,bI,bO,(slot l6 22),bN,v16,v17,bR,bR,(slot l6 22),v19,v19] h
def Bu (v0:Value) (l2:List Value) (l6:List Value) (N5:List Value→Heap→Prop) (N1:List Value→Heap→Prop) (v3 v4:Value) (h:Heap):Prop :=
 aq False 4 v0 (slot l2 29) h fun v7 h=>
 fieldAddrB False 2 v7 h fun v8 h=>
 load1 False v8 h fun v9 h=>
 br False v9 h fun v10 h=>
 au False prog .lss 3 false false (slot l6 22) v10 h fun v11 h=>
 ay v11 (
 Ix v0 l2 l6 N5 v7 v8 v9 v10 v11 h) (
 au False prog .add 3 true false (slot l2 29) (.int .i64 1) h fun v20 h=>
 N1 [(slot l2 29),v0,v3,v4,(slot l6 22),v0,(slot l2 29),v7,v8,v9,v10,v11,(slot l6 8),(slot l6 9),(slot l6 10),(slot l6 11),(slot l6 12),(slot l6 13),(slot l6 14),(slot l6 15),(slot l6 16),(slot l6 17),(slot l6 18),(slot l6 19),(slot l6 20),(slot l6 21),(slot l6 22),(slot l2 29),v20,v20] h)
def Bv (l2:List Value) (qb:List Value) (a0:Value) (Km:List Value→Heap→Prop) (h:Heap) (κ:KQ):Prop :=
 br False (slot l2 23) h fun v23 h=>
 au False prog .lss 3 false false (slot qb 15) v23 h fun v24 h=>
 ay v24 (
 aq False 1 (slot l2 23) (slot qb 15) h fun v25 h=>
 load1 False v25 h fun v26 h=>
 CallW prog 56 [a0,v26] h fun v27 h=>
 bu False 60 4 [(.int .i64 0),(.int .i64 0),(.int .i64 0),(.int .i64 0)] false (slot qb 12) v27 h fun v28 h=>
 au False prog .add 3 true false (slot qb 15) (.int .i64 1) h fun fG h=>
 Km [(slot qb 15),(slot l2 23),v23,v24,(slot qb 12),a0,(slot l2 23),(slot qb 15),v25,v26,v27,v28,v28,(slot qb 15),fG,fG] h) (
 κ (slot qb 12) h)
def Bw (v0:Value) (l2:List Value) (N1:List Value→Heap→Prop) (a0:Value) (h:Heap) (κ:KQ):Prop :=
 br False v0 h fun v3 h=>
 au False prog .lss 3 false false (slot l2 29) v3 h fun v4 h=>
 ay v4 (
 b6 [(slot l2 4),(slot l2 5),(slot l2 6),(slot l2 7),(slot l2 8),(slot l2 9),(slot l2 10),(slot l2 11),(slot l2 12),(slot l2 13),(slot l2 14),(slot l2 15),(slot l2 16),(slot l2 17),(slot l2 18),(slot l2 19),(slot l2 20),(slot l2 21),(slot l2 22),(slot l2 23),(slot l2 24),(slot l2 25),(.int .i64 0)] h fun l6 h N5=>
 Bu v0 l2 l6 N5 N1 v3 v4 h) (
 b6 [undef,undef,undef,undef,undef,undef,undef,undef,undef,undef,undef,undef,(.slice none 0 0),undef,undef,(.int .i64 0)] h fun qb h Km=>
 Bv l2 qb a0 Km h κ)
theorem ZB (a0:Value) (h:Heap) (κ:KQ):aM prog 24 [a0] h κ = (
 CallW prog 54 [a0] h fun v0 h=>
 b6 [undef,undef,undef,undef,undef,undef,undef,undef,undef,undef,undef,undef,undef,undef,undef,undef,undef,undef,undef,undef,undef,undef,undef,(.slice none 0 0),undef,undef,undef,undef,undef,(.int .i64 0)] h fun l2 h N1=>
 Bw v0 l2 N1 a0 h κ) := by kernel_rfl
theorem ZC (a0:Value) (h:Heap) (κ:KQ):aM prog 25 [a0] h κ = (
 ax False (Value.cells a0).toList 36 false fun o0 => aj False o0 h fun b1 h=>
 aD False 2 (ptrTo b1) h fun v2 h=>
 CallW prog 57 [v2] h fun v3 h=>
 au False prog .lss 3 true false v3 (.int .i64 0) h fun v4 h=>
 ay v4 (
 κ (.int .i64 2) h) (
 κ (.int .i64 0) h)) := by kernel_rfl
theorem ZD (a0:Value) (h:Heap) (κ:KQ):aM prog 27 [a0] h κ = (
 ax False [(.int .i64 0),(.int .i64 0)] 36 false fun o0 => aj False o0 h fun b1 h=>
 bC False [(0,1),(1,1)] [a0,(.int .i64 (-1))] [(.int .i64 0),(.int .i64 0)] fun QU=>
 aI False 2 (ptrTo b1) (Value.agg (Array.mk QU)) h fun v3 h=>
 aD False 2 (ptrTo b1) h fun v4 _ => κ v4 h) := by kernel_rfl
theorem ZE (a0 a1 a2:Value) (h:Heap) (κ:KQ):aM prog 28 [a0,a1,a2] h κ = (
 ax False (Value.cells a1).toList 36 false fun o0 => aj False o0 h fun b1 h=>
 ax False [(.int .i64 0),(.int .i64 0),(.int .i64 0),(.int .i64 0),(.int .i64 0),(.int .i64 0),(.int .i64 0)] 39 false fun o2 => aj False o2 h fun b3 h=>
 aD False 2 (ptrTo b1) h fun v4 h=>
 bC False [(0,1),(1,1),(2,2),(4,1)] [(.int .i64 1),a0,v4,a2] [(.int .i64 0),(.int .i64 0),(.int .i64 0),(.int .i64 0),(.int .i64 0),(.int .i64 0),(.int .i64 0)] fun Yq=>
 aI False 7 (ptrTo b3) (Value.agg (Array.mk Yq)) h fun v6 h=>
 aD False 7 (ptrTo b3) h fun v7 _ => κ v7 h) := by kernel_rfl
def Iy (a0 v0:Value) (h:Heap) (κ:KQ):Prop :=
 aH (some a0) h fun bN h=>
 aH (aV none bN h fun v _=>some v) h fun v16 h=>
 aH (fieldAddrB none 1 v16 h fun v _=>some v) h fun v17 h=>
 aH (load1 none v17 h fun v _=>some v) h fun bR h=>
 aH (some v0) h fun v19 h=>
 aH (aV none v19 h fun v _=>some v) h fun v20 h=>
 aH (fieldAddrB none 10 v20 h fun v _=>some v) h fun v21 h=>
 aH (load1 none v21 h fun v _=>some v) h fun v22 h=>
 CallW prog 62 [bR,v22] h fun v23 h=>
 aH (some v23) h fun v24 h=>
 aH (av none 0 v24 h fun v _=>some v) h fun v25 h=>
 aH (av none 1 v24 h fun v _=>some v) h fun v26 h=>
 dM ((gz (av none 1 v24 h fun v _=>some v) v26) && true) (aV False v0 h fun v27 h=>
 fieldAddrB False 12 v27 h fun v28 h=>
 load1 False v28 h fun fG h=>
 au False prog .neq 3 true false fG (.int .i64 1) h fun v30 h=>
 ag (ah v30 false) (fun Gv=>
 Gv v26 h) h fun v32 h=>
 ag (ah v30 false) (fun Kl=>
 jv False .not v32 h Kl) h fun gY h=>
 bf False v30 (.bool true) gY h fun v35 h=>
 κ v35 h)
theorem ZF (a0 a1:Value) (h:Heap) (κ:KQ):aM prog 31 [a0,a1] h κ = (
 CallW prog 40 [a0,a1] h fun v0 h=>
 au False prog .eql 96 true false v0 (.pointer none) h fun v1 h=>
 ag (ah v1 false) (fun K2=>
 K2 a0 h) h fun v3 h=>
 ag (ah v1 false) (fun K4=>
 aV False v3 h K4) h fun v5 h=>
 ag (ah v1 false) (fun K6=>
 fieldAddrB False 2 v5 h K6) h fun v7 h=>
 ag (ah v1 false) (fun K8=>
 load1 False v7 h K8) h fun v9 h=>
 ag (ah v1 false) (fun oS=>
 oS a1 h) h fun v11 h=>
 ag (ah v1 false) (fun mN=>
 CallW prog 61 [v9,v11] h mN) h fun bI h=>
 bf False v1 (.bool true) bI h fun bO h=>
 ay bO (
 κ (.bool false) h) (
 Iy a0 v0 h κ)) := by kernel_rfl
theorem ZG (a0:Value) (h:Heap) (κ:KQ):aM prog 37 [a0] h κ = (
 au False prog .lss 3 true false a0 (.int .i64 0) h fun v0 h=>
 ag (ah v0 false) (fun K1=>
 K1 a0 h) h fun v2 h=>
 ag (ah v0 false) (fun K3=>
 au False prog .gtr 3 true false v2 (.int .i64 128) h K3) h fun v4 h=>
 bf False v0 (.bool true) v4 h fun v5 h=>
 ay v5 (
 κ (Value.tuple (Array.mk [(.pointer none),(.int .i64 2)])) h) (
 MX False a0 a0 [(.bool false)] 4 h fun v8 h=>
 bC False [(0,1)] [v8] [(.slice none 0 0)] fun UY=>
 ax False (Value.cells (Value.agg (Array.mk UY))).toList 132 false fun QW => aj False QW h fun Iz h=>
 κ (Value.tuple (Array.mk [(ptrTo Iz),(.int .i64 0)])) h)) := by kernel_rfl
theorem ZH (a0 a1:Value) (h:Heap) (κ:KQ):aM prog 38 [a0,a1] h κ = (
 au False prog .lss 3 true false a0 (.int .i64 1) h fun v0 h=>
 ag (ah v0 false) (fun K1=>
 K1 a0 h) h fun v2 h=>
 ag (ah v0 false) (fun K3=>
 au False prog .gtr 3 true false v2 (.int .i64 64) h K3) h fun v4 h=>
 bf False v0 (.bool true) v4 h fun v5 h=>
 ag (ah v5 false) (fun K6=>
 K6 a1 h) h fun v7 h=>
 ag (ah v5 false) (fun K8=>
 au False prog .eql 85 true false v7 (.pointer none) h K8) h fun v9 h=>
 bf False v5 (.bool true) v9 h fun v10 h=>
 ay v10 (
 κ (Value.tuple (Array.mk [(.pointer none),(.int .i64 2)])) h) (
 bC False [(0,1),(1,1)] [a0,a1] [(.int .i64 0),(.pointer none),(.slice none 0 0)] fun UZ=>
 ax False (Value.cells (Value.agg (Array.mk UZ))).toList 134 false fun U0 => aj False U0 h fun IA h=>
 κ (Value.tuple (Array.mk [(ptrTo IA),(.int .i64 0)])) h)) := by kernel_rfl
def IB (b1:Nat) (v4 v8 a1:Value) (h:Heap) (κ:KQ):Prop :=
 fieldAddrB False 0 (ptrTo b1) h fun v11 h=>
 load1 False v11 h fun v12 h=>
 CallW prog 69 [v12] h fun bI h=>
 av False 0 bI h fun bO h=>
 av False 1 bI h fun bN h=>
 aH (some v4) h fun v16 h=>
 aH (some bO) h fun v17 h=>
 aH (some v8) h fun bR h=>
 aH (some a1) h fun v19 h=>
 J7 (match v19,v19 with | .int _ (.ofNat l),.int _ (.ofNat c) => (match Nat.ble l c,Nat.ble c 1000000 with | true,true => (ax none (aU [(.pointer none)] c) 96 false fun o => some (o,sliceTo l c)) | _,_ => none) | _,_ => none) h fun v20 h=>
 J7 (some ((.map [] 0),iQ)) h fun v21 h=>
 CallW prog 70 [] h fun v22 h=>
 dM ((gz (some v4) v16) && ((gz (some bO) v17) && ((gz (some v8) bR) && ((gz (some a1) v19) && true)))) (aH (bC none [(0,1),(1,1),(2,1),(3,1),(4,1),(5,1)] [v16,v17,bR,v22,v20,v21] [(.pointer none),(.pointer none),(.pointer none),(.pointer none),(.slice none 0 0),(Value.map none),(.int .i64 0)] fun cs => some (Value.agg (Array.mk cs))) h fun v23 h=>
 J7 (ax none (Value.cells v23).toList 107 false fun o => some (o,ptrTo)) h fun v24 h=>
 κ (Value.tuple (Array.mk [v24,(.int .i64 0)])) h)
def IC (a1:Value) (b1:Nat) (v4:Value) (h:Heap) (κ:KQ):Prop :=
 CallW prog 68 [a1] h fun v7 h=>
 av False 0 v7 h fun v8 h=>
 av False 1 v7 h fun v9 h=>
 au False prog .neq 26 true false v9 (.int .i64 0) h fun v10 h=>
 ay v10 (
 κ (Value.tuple (Array.mk [(.pointer none),v9])) h) (
 IB b1 v4 v8 a1 h κ)
theorem ZI (a0 a1:Value) (h:Heap) (κ:KQ):aM prog 39 [a0,a1] h κ = (
 ax False (Value.cells a0).toList 30 false fun o0 => aj False o0 h fun b1 h=>
 aD False 4 (ptrTo b1) h fun v2 h=>
 CallW prog 67 [v2] h fun v3 h=>
 av False 0 v3 h fun v4 h=>
 av False 1 v3 h fun v5 h=>
 au False prog .neq 26 true false v5 (.int .i64 0) h fun v6 h=>
 ay v6 (
 κ (Value.tuple (Array.mk [(.pointer none),v5])) h) (
 IC a1 b1 v4 h κ)) := by kernel_rfl
theorem ZJ (a0 a1:Value) (h:Heap) (κ:KQ):aM prog 40 [a0,a1] h κ = (
 CallW prog 41 [a0,a1] h fun v0 h=>
 jv False .not v0 h fun v1 h=>
 ay v1 (
 κ (.pointer none) h) (
 aV False a0 h fun v2 h=>
 fieldAddrB False 4 v2 h fun v3 h=>
 load1 False v3 h fun v4 h=>
 aq False 1 v4 a1 h fun v5 h=>
 load1 False v5 h fun v6 h=>
 κ v6 h)) := by kernel_rfl
theorem ZK (a0 a1:Value) (h:Heap) (κ:KQ):aM prog 41 [a0,a1] h κ = (
 au False prog .neq 32 true false a0 (.pointer none) h fun v0 h=>
 ag (ah v0 true) (fun K1=>
 K1 a1 h) h fun v2 h=>
 ag (ah v0 true) (fun K3=>
 au False prog .geq 3 true false v2 (.int .i64 0) h K3) h fun v4 h=>
 bf False v0 v4 (.bool false) h fun v5 h=>
 ag (ah v5 true) (fun K6=>
 K6 a1 h) h fun v7 h=>
 ag (ah v5 true) (fun K8=>
 K8 a0 h) h fun v9 h=>
 ag (ah v5 true) (fun oS=>
 aV False v9 h oS) h fun v11 h=>
 ag (ah v5 true) (fun mN=>
 fieldAddrB False 4 v11 h mN) h fun bI h=>
 ag (ah v5 true) (fun ry=>
 load1 False bI h ry) h fun bN h=>
 ag (ah v5 true) (fun uS=>
 br False bN h uS) h fun v17 h=>
 ag (ah v5 true) (fun Bx=>
 au False prog .lss 3 false false v7 v17 h Bx) h fun v19 h=>
 bf False v5 v19 (.bool false) h fun v20 h=>
 κ v20 h) := by kernel_rfl
theorem ZL (a0 a1:Value) (h:Heap) (κ:KQ):aM prog 42 [a0,a1] h κ = (
 ax False (Value.cells a0).toList 36 false fun o0 => aj False o0 h fun b1 h=>
 aD False 2 (ptrTo b1) h fun v2 h=>
 CallW prog 25 [v2] h fun v3 h=>
 au False prog .neq 26 true false v3 (.int .i64 0) h fun v4 h=>
 ag (ah v4 false) (fun K5=>
 K5 a1 h) h fun v6 h=>
 ag (ah v4 false) (fun K7=>
 au False prog .lss 3 true false v6 (.int .i64 1) h K7) h fun v8 h=>
 bf False v4 (.bool true) v8 h fun v9 h=>
 ag (ah v9 false) (fun oS=>
 oS a1 h) h fun v11 h=>
 ag (ah v9 false) (fun mN=>
 au False prog .gtr 3 true false v11 (.int .i64 16) h mN) h fun bI h=>
 bf False v9 (.bool true) bI h fun bO h=>
 ay bO (
 κ (.int .i64 (-1)) h) (
 aD False 2 (ptrTo b1) h fun bN h=>
 CallW prog 71 [bN] h fun v16 h=>
 jb False .u32 a1 h fun v17 h=>
 au False prog .rem 142 false false v16 v17 h fun bR h=>
 jb False .i64 bR h fun v19 h=>
 κ v19 h)) := by kernel_rfl
def ID (b1:Nat) (h:Heap) (κ:KQ):Prop :=
 fieldAddrB False 4 (ptrTo b1) h fun v9 h=>
 load1 False v9 h fun v10 h=>
 CallW prog 73 [v10] h fun v11 h=>
 ag (ah v11 true) (fun mN=>
 fieldAddrB False 4 (ptrTo b1) h mN) h fun bI h=>
 ag (ah v11 true) (fun ry=>
 load1 False bI h ry) h fun bN h=>
 ag (ah v11 true) (fun uS=>
 au False prog .neq 37 true false bN (.int .i64 0) h uS) h fun v17 h=>
 bf False v11 v17 (.bool false) h fun bR h=>
 ag (ah bR true) (fun Bt=>
 fieldAddrB False 5 (ptrTo b1) h Bt) h fun v20 h=>
 ag (ah bR true) (fun DD=>
 load1 False v20 h DD) h fun v22 h=>
 ag (ah bR true) (fun DE=>
 au False prog .geq 2 true false v22 (.int .i64 0) h DE) h fun v24 h=>
 bf False bR v24 (.bool false) h fun v25 h=>
 κ v25 h
def IF (b1:Nat) (h:Heap) (κ:KQ):Prop :=
 fieldAddrB False 0 (ptrTo b1) h fun v26 h=>
 load1 False v26 h fun v27 h=>
 au False prog .eql 3 true false v27 (.int .i64 3) h fun v28 h=>
 ay v28 (
 fieldAddrB False 6 (ptrTo b1) h fun fG h=>
 load1 False fG h fun v30 h=>
 fieldAddrB False 1 (ptrTo b1) h fun v31 h=>
 load1 False v31 h fun v32 h=>
 au False prog .neq 3 false false v30 v32 h fun v33 h=>
 κ v33 h) (
 fieldAddrB False 0 (ptrTo b1) h fun gY h=>
 load1 False gY h fun v35 h=>
 au False prog .eql 3 true false v35 (.int .i64 2) h fun iP h=>
 κ iP h)
theorem ZM (a0:Value) (h:Heap) (κ:KQ):aM prog 43 [a0] h κ = (
 ax False (Value.cells a0).toList 39 false fun o0 => aj False o0 h fun b1 h=>
 fieldAddrB False 2 (ptrTo b1) h fun v2 h=>
 aD False 2 v2 h fun v3 h=>
 CallW prog 72 [v3] h fun v4 h=>
 au False prog .neq 26 true false v4 (.int .i64 0) h fun v5 h=>
 ay v5 (
 κ (.bool false) h) (
 fieldAddrB False 0 (ptrTo b1) h fun v6 h=>
 load1 False v6 h fun v7 h=>
 au False prog .eql 3 true false v7 (.int .i64 1) h fun v8 h=>
 ay v8 (
 ID b1 h κ) (
 IF b1 h κ))) := by kernel_rfl
def IG (b1:Nat) (a0:Value) (h:Heap) (κ:KQ):Prop :=
 aH (aD none 2 (ptrTo b1) h fun v _=>some v) h fun v3 h=>
 aH (some a0) h fun v4 h=>
 aH (aV none v4 h fun v _=>some v) h fun v5 h=>
 aH (fieldAddrB none 0 v5 h fun v _=>some v) h fun v6 h=>
 aH (fieldAddrB none 0 v6 h fun v _=>some v) h fun v7 h=>
 aH (load1 none v7 h fun v _=>some v) h fun v8 h=>
 CallW prog 74 [v3,v8] h fun v9 h=>
 κ v9 h
theorem ZN (a0 a1:Value) (h:Heap) (κ:KQ):aM prog 44 [a0,a1] h κ = (
 ax False (Value.cells a1).toList 36 false fun o0 => aj False o0 h fun b1 h=>
 au False prog .eql 100 true false a0 (.pointer none) h fun v2 h=>
 ay v2 (
 κ (.int .i64 (-1)) h) (
 IG b1 a0 h κ)) := by kernel_rfl
theorem To (a0 a1 a2:Value) (h:Heap) (κ:KQ):aM prog 45 [a0,a1,a2] h κ = (
 aV False a0 h fun v0 h=>
 fieldAddrB False 12 v0 h fun v1 h=>
 aI False 1 v1 a1 h fun v2 h=>
 aV False a0 h fun v3 h=>
 fieldAddrB False 11 v3 h fun v4 h=>
 aI False 1 v4 a2 h fun v5 h=>
 κ (Value.tuple (Array.mk [])) h) := by kernel_rfl
theorem ZO (a0:Value) (h:Heap) (κ:KQ):aM prog 46 [a0] h κ = (
 aH (some a0) h fun v0 h=>
 aH (aV none v0 h fun v _=>some v) h fun v1 h=>
 aH (fieldAddrB none 7 v1 h fun v _=>some v) h fun v2 h=>
 aH (load1 none v2 h fun v _=>some v) h fun v3 h=>
 aH (aV none v3 h fun v _=>some v) h fun v4 h=>
 aH (fieldAddrB none 1 v4 h fun v _=>some v) h fun v5 h=>
 aH (load1 none v5 h fun v _=>some v) h fun v6 h=>
 aH (some a0) h fun v7 h=>
 aH (aV none v7 h fun v _=>some v) h fun v8 h=>
 aH (fieldAddrB none 10 v8 h fun v _=>some v) h fun v9 h=>
 aH (load1 none v9 h fun v _=>some v) h fun v10 h=>
 aH (some a0) h fun v11 h=>
 aH (aV none v11 h fun v _=>some v) h fun v12 h=>
 aH (fieldAddrB none 8 v12 h fun v _=>some v) h fun bI h=>
 aH (load1 none bI h fun v _=>some v) h fun bO h=>
 CallW prog 75 [v6,v10,bO] h fun bN h=>
 CallW prog 45 [a0,(.int .i64 2),(Value.func (.func 76) (Array.mk [a0]) (Array.mk []))] h fun v16 h=>
 κ (Value.tuple (Array.mk [])) h) := by kernel_rfl
def II (a0 v4:Value) (l8:List Value) (h:Heap) (κ:KQ):Prop :=
 aV False a0 h fun v27 h=>
 fieldAddrB False 2 v27 h fun v28 h=>
 load1 False v28 h fun fG h=>
 aq False 4 fG v4 h fun v30 h=>
 fieldAddrB False 2 v30 h fun v31 h=>
 load1 False v31 h fun v32 h=>
 aq False 5 v32 (slot l8 41) h fun v33 h=>
 fieldAddrB False 0 v33 h fun gY h=>
 load1 False gY h fun v35 h=>
 κ (Value.tuple (Array.mk [v35,(.bool true)])) h
def By (a0 v4:Value) (l8:List Value) (a2:Value) (N7:List Value→Heap→Prop) (v9 v10 v11 v12 bI bO bN v16:Value) (h:Heap) (κ:KQ):Prop :=
 aV False a0 h fun v17 h=>
 fieldAddrB False 2 v17 h fun bR h=>
 load1 False bR h fun v19 h=>
 aq False 4 v19 v4 h fun v20 h=>
 fieldAddrB False 2 v20 h fun v21 h=>
 load1 False v21 h fun v22 h=>
 aq False 5 v22 (slot l8 41) h fun v23 h=>
 fieldAddrB False 1 v23 h fun v24 h=>
 load1 False v24 h fun v25 h=>
 au False prog .eql 3 false false v25 a2 h fun v26 h=>
 ay v26 (
 II a0 v4 l8 h κ) (
 au False prog .add 3 true false (slot l8 41) (.int .i64 1) h fun iP h=>
 N7 [(slot l8 41),a0,v9,v10,v11,v4,v12,bI,bO,bN,v16,a0,v17,bR,v19,v4,v20,v21,v22,(slot l8 41),v23,v24,v25,a2,v26,(slot l8 25),(slot l8 26),(slot l8 27),(slot l8 28),(slot l8 29),(slot l8 30),(slot l8 31),(slot l8 32),(slot l8 33),(slot l8 34),(slot l8 35),(slot l8 36),(slot l8 37),(slot l8 38),(slot l8 41),iP,iP] h)
def vt (a0 v4:Value) (l8:List Value) (a2:Value) (N7:List Value→Heap→Prop) (h:Heap) (κ:KQ):Prop :=
 aV False a0 h fun v9 h=>
 fieldAddrB False 2 v9 h fun v10 h=>
 load1 False v10 h fun v11 h=>
 aq False 4 v11 v4 h fun v12 h=>
 fieldAddrB False 2 v12 h fun bI h=>
 load1 False bI h fun bO h=>
 br False bO h fun bN h=>
 au False prog .lss 3 false false (slot l8 41) bN h fun v16 h=>
 ay v16 (
 By a0 v4 l8 a2 N7 v9 v10 v11 v12 bI bO bN v16 h κ) (
 κ (Value.tuple (Array.mk [(.int .i64 0),(.bool false)])) h)
theorem ZP (a0 a1 a2:Value) (h:Heap) (κ:KQ):aM prog 47 [a0,a1,a2] h κ = (
 ax False (Value.cells a1).toList 36 false fun o0 => aj False o0 h fun b1 h=>
 aD False 2 (ptrTo b1) h fun v2 h=>
 CallW prog 77 [a0,v2] h fun v3 h=>
 av False 0 v3 h fun v4 h=>
 av False 1 v3 h fun v5 h=>
 jv False .not v5 h fun v6 h=>
 ay v6 (
 κ (Value.tuple (Array.mk [(.int .i64 0),(.bool false)])) h) (
 b6 [undef,undef,undef,undef,undef,undef,undef,undef,undef,undef,undef,undef,undef,undef,undef,undef,undef,undef,undef,undef,undef,undef,undef,undef,undef,undef,undef,undef,undef,undef,undef,undef,undef,undef,undef,undef,undef,(.int .i64 0),(.bool false),undef,undef,(.int .i64 0)] h fun l8 h N7=>
 vt a0 v4 l8 a2 N7 h κ)) := by kernel_rfl
def IJ (a0:Value) (l1:List Value) (a1:Value) (N0:List Value→Heap→Prop) (v2 v3 v4 v5 v6:Value) (h:Heap) (κ:KQ):Prop :=
 aV False a0 h fun v7 h=>
 fieldAddrB False 4 v7 h fun v8 h=>
 load1 False v8 h fun v9 h=>
 aq False 1 v9 (slot l1 26) h fun v10 h=>
 load1 False v10 h fun v11 h=>
 CallW prog 78 [v11,a1] h fun v12 h=>
 ay v12 (
 aV False a0 h fun bI h=>
 fieldAddrB False 4 bI h fun bO h=>
 load1 False bO h fun bN h=>
 aq False 1 bN (slot l1 26) h fun v16 h=>
 load1 False v16 h fun v17 h=>
 κ v17 h) (
 au False prog .add 3 true false (slot l1 26) (.int .i64 1) h fun bR h=>
 N0 [(slot l1 26),a0,v2,v3,v4,v5,v6,a0,v7,v8,v9,(slot l1 26),v10,v11,a1,v12,(slot l1 16),(slot l1 17),(slot l1 18),(slot l1 19),(slot l1 20),(slot l1 21),(slot l1 22),(slot l1 23),(slot l1 26),bR,bR] h)
def Bz (a0:Value) (l1:List Value) (a1:Value) (N0:List Value→Heap→Prop) (h:Heap) (κ:KQ):Prop :=
 aV False a0 h fun v2 h=>
 fieldAddrB False 4 v2 h fun v3 h=>
 load1 False v3 h fun v4 h=>
 br False v4 h fun v5 h=>
 au False prog .lss 3 false false (slot l1 26) v5 h fun v6 h=>
 ay v6 (
 IJ a0 l1 a1 N0 v2 v3 v4 v5 v6 h κ) (
 κ (.pointer none) h)
theorem ZQ (a0 a1:Value) (h:Heap) (κ:KQ):aM prog 48 [a0,a1] h κ = (
 b6 [undef,undef,undef,undef,undef,undef,undef,undef,undef,undef,undef,undef,undef,undef,undef,undef,undef,undef,undef,undef,undef,undef,undef,(.pointer none),undef,undef,(.int .i64 0)] h fun l1 h N0=>
 Bz a0 l1 a1 N0 h κ) := by kernel_rfl
def IK (a0 v0 a1:Value) (h:Heap) (κ:KQ):Prop :=
 aV False a0 h fun v2 h=>
 fieldAddrB False 2 v2 h fun v3 h=>
 load1 False v3 h fun v4 h=>
 aq False 4 v4 v0 h fun v5 h=>
 aD False 4 v5 h fun v6 h=>
 CallW prog 80 [v6,a1] h fun v7 h=>
 av False 0 v7 h fun v8 h=>
 av False 1 v7 h fun v9 h=>
 ax False [(.int .i64 0),(.int .i64 0),(.slice none 0 0),(.int .i64 0)] 81 false fun QW => aj False QW h fun Iz h=>
 aI False 4 (ptrTo Iz) v8 h fun v12 h=>
 aV False a0 h fun bI h=>
 fieldAddrB False 1 bI h fun bO h=>
 load1 False bO h fun bN h=>
 CallW prog 81 [bN,a1] h fun v16 h=>
 aD False 4 (ptrTo Iz) h fun v17 h=>
 CallW prog 82 [a0,v0,v17] h fun bR h=>
 κ (Value.tuple (Array.mk [bR,(.int .i64 0)])) h
theorem ZR (a0 a1:Value) (h:Heap) (κ:KQ):aM prog 49 [a0,a1] h κ = (
 CallW prog 79 [a0,a1] h fun v0 h=>
 au False prog .lss 3 true false v0 (.int .i64 0) h fun v1 h=>
 ay v1 (
 κ (Value.tuple (Array.mk [(.slice none 0 0),(.int .i64 5)])) h) (
 IK a0 v0 a1 h κ)) := by kernel_rfl
theorem ZS (a0:Value) (h:Heap) (κ:KQ):aM prog 50 [a0] h κ = (
 au False prog .geq 37 true false a0 (.int .i64 0) h fun v0 h=>
 ag (ah v0 true) (fun K1=>
 K1 a0 h) h fun v2 h=>
 ag (ah v0 true) (fun K3=>
 au False prog .leq 37 true false v2 (.int .i64 6) h K3) h fun v4 h=>
 bf False v0 v4 (.bool false) h fun v5 h=>
 κ v5 h) := by kernel_rfl
def IL (a0 v0:Value) (Yo:Nat) (v17:Value) (h:Heap) (κ:KQ):Prop :=
 aH (some a0) h fun v23 h=>
 aH (aV none v23 h fun v _=>some v) h fun v24 h=>
 aH (fieldAddrB none 2 v24 h fun v _=>some v) h fun v25 h=>
 aH (load1 none v25 h fun v _=>some v) h fun v26 h=>
 aH (some v0) h fun v27 h=>
 aH (aD none 4 (ptrTo Yo) h fun v _=>some v) h fun v28 h=>
 aH (aq none 4 v26 v27 h fun v _=>some v) h fun fG h=>
 aI False 4 fG v28 h fun v30 h=>
 κ (Value.tuple (Array.mk [v17,(.int .i64 0)])) h
def IM (a1 a2:Value) (h:Heap) (κ:KQ):Prop :=
 bC False [] [] [(.int .i64 0),(.int .i64 0),(.slice none 0 0),(.int .i64 0)] fun QU=>
 CallW prog 83 [(Value.agg (Array.mk QU)),a1,a2] h fun v3 h=>
 av False 0 v3 h fun v4 h=>
 av False 1 v3 h fun v5 h=>
 av False 2 v3 h fun v6 h=>
 ax False [(.int .i64 0),(.int .i64 0),(.slice none 0 0),(.int .i64 0)] 81 false fun o7 => aj False o7 h fun b8 h=>
 aI False 4 (ptrTo b8) v4 h fun v9 h=>
 κ (Value.tuple (Array.mk [(.bool false),v6])) h
def IN (a0 v0 a1 a2:Value) (h:Heap) (κ:KQ):Prop :=
 aV False a0 h fun v10 h=>
 fieldAddrB False 2 v10 h fun v11 h=>
 load1 False v11 h fun v12 h=>
 aq False 4 v12 v0 h fun bI h=>
 aD False 4 bI h fun bO h=>
 CallW prog 83 [bO,a1,a2] h fun bN h=>
 av False 0 bN h fun v16 h=>
 av False 1 bN h fun v17 h=>
 av False 2 bN h fun bR h=>
 ax False [(.int .i64 0),(.int .i64 0),(.slice none 0 0),(.int .i64 0)] 81 false fun o19 => aj False o19 h fun Yo h=>
 aI False 4 (ptrTo Yo) v16 h fun v21 h=>
 au False prog .neq 26 true false bR (.int .i64 0) h fun v22 h=>
 ay v22 (
 κ (Value.tuple (Array.mk [(.bool false),bR])) h) (
 IL a0 v0 Yo v17 h κ)
theorem ZT (a0 a1 a2:Value) (h:Heap) (κ:KQ):aM prog 51 [a0,a1,a2] h κ = (
 CallW prog 79 [a0,a1] h fun v0 h=>
 au False prog .lss 3 true false v0 (.int .i64 0) h fun v1 h=>
 ay v1 (
 IM a1 a2 h κ) (
 IN a0 v0 a1 a2 h κ)) := by kernel_rfl
def IP (a0 v16:Value) (QX:Nat) (N72:List Value→Heap→Prop) (v17:Value) (h:Heap):Prop :=
 aV False a0 h fun zp h=>
 fieldAddrB False 2 zp h fun v75 h=>
 load1 False v75 h fun v76 h=>
 aq False 4 v76 v16 h fun v77 h=>
 aD False 4 v77 h fun v78 h=>
 aI False 4 (ptrTo QX) v78 h fun v79 h=>
 N72 [v17,a0,zp,v75,v76,v16,v77,v78] h
def IQ (a0:Value) (U2:List Value) (Kn Im Gw:Value) (h:Heap) (κ:KQ):Prop :=
 aV False a0 h fun U3 h=>
 fieldAddrB False 2 U3 h fun v109 h=>
 load1 False v109 h fun U4 h=>
 sliceB False 81 4 U4 (some (slot U2 3)) none none h fun U5 h=>
 bu False 81 4 [(.int .i64 0),(.int .i64 0),(.slice none 0 0),(.int .i64 0)] false Kn U5 h fun ZU h=>
 aV False a0 h fun aeW h=>
 fieldAddrB False 2 aeW h fun aeX h=>
 aI False 1 aeX ZU h fun DF h=>
 κ (Value.tuple (Array.mk [Im,Gw,(.int .i64 0)])) h
def BA (a0:Value) (QX:Nat) (a2 a3 v16 v17:Value) (h:Heap) (κ:KQ):Prop :=
 aV False a0 h fun v80 h=>
 fieldAddrB False 1 v80 h fun Gt h=>
 load1 False Gt h fun v82 h=>
 CallW prog 86 [v82] h fun Gu h=>
 av False 0 Gu h fun Im h=>
 av False 1 Gu h fun v85 h=>
 aD False 4 (ptrTo QX) h fun PF h=>
 CallW prog 87 [PF,Im,a2,a3] h fun v87 h=>
 av False 0 v87 h fun Kk h=>
 av False 1 v87 h fun Gw h=>
 av False 2 v87 h fun Tn h=>
 aI False 4 (ptrTo QX) Kk h fun v91 h=>
 bC False [] [] (aU [(.int .i64 0),(.int .i64 0),(.slice none 0 0),(.int .i64 0)] 0) fun U6 => ax False U6 81 false fun o92 => aj False o92 h fun b93 h=>
 aV False a0 h fun MZ h=>
 fieldAddrB False 2 MZ h fun ZV h=>
 load1 False ZV h fun M0 h=>
 sliceB False 81 4 M0 none (some v16) none h fun v98 h=>
 bu False 81 4 [(.int .i64 0),(.int .i64 0),(.slice none 0 0),(.int .i64 0)] false (sliceTo 0 0 b93) v98 h fun M1 h=>
 aD False 4 (ptrTo QX) h fun Gx h=>
 bC False [(0,4)] [Gx] (aU [(.int .i64 0),(.int .i64 0),(.slice none 0 0),(.int .i64 0)] 1) fun ZW => ax False ZW 81 false fun ae0 => aj False ae0 h fun ae1 h=>
 bu False 81 4 [(.int .i64 0),(.int .i64 0),(.slice none 0 0),(.int .i64 0)] false M1 (sliceTo 1 1 ae1) h fun Kn h=>
 dD (fun ZX=>
 ay v17 (
 au False prog .add 3 true false v16 (.int .i64 1) h fun v107 h=>
 ZX [v17,v16,v107,v107] h) (
 ZX [v17,undef,undef,v16] h)) fun U2 h=>
 IQ a0 U2 Kn Im Gw h κ
def BB (b1:Nat) (v17 a0 v16 a2 a3:Value) (h:Heap) (κ:KQ):Prop :=
 aD False 2 (ptrTo b1) h fun v67 h=>
 bC False [(0,2)] [v67] [(.int .i64 0),(.int .i64 0),(.slice none 0 0),(.int .i64 0)] fun ae2=>
 ax False [(.int .i64 0),(.int .i64 0),(.slice none 0 0),(.int .i64 0)] 81 false fun o69 => aj False o69 h fun QX h=>
 aI False 4 (ptrTo QX) (Value.agg (Array.mk ae2)) h fun ru h=>
 dD (fun N72=>
 ay v17 (
 IP a0 v16 QX N72 v17 h) (
 N72 [v17,undef,undef,undef,undef,undef,undef,undef] h)) fun l73 h=>
 BA a0 QX a2 a3 v16 v17 h κ
def IS (b1:Nat) (a0 a2 a3:Value) (h:Heap) (κ:KQ):Prop :=
 aD False 2 (ptrTo b1) h fun bO h=>
 CallW prog 77 [a0,bO] h fun bN h=>
 av False 0 bN h fun v16 h=>
 av False 1 bN h fun v17 h=>
 aH (some v17) h fun bR h=>
 aH (jv none .not bR h fun v _=>some v) h fun v19 h=>
 aH (some v19) h fun v20 h=>
 ag (ah v20 true) (fun DD=>
 aH (some a0) h DD) h fun v22 h=>
 ag (ah v20 true) (fun DE=>
 aH (aV none v22 h fun v _=>some v) h DE) h fun v24 h=>
 ag (ah v20 true) (fun Nb=>
 aH (fieldAddrB none 2 v24 h fun v _=>some v) h Nb) h fun v26 h=>
 ag (ah v20 true) (fun Gy=>
 aH (load1 none v26 h fun v _=>some v) h Gy) h fun v28 h=>
 ag (ah v20 true) (fun Gz=>
 aH (br none v28 h fun v _=>some v) h Gz) h fun v30 h=>
 ag (ah v20 true) (fun Gv=>
 aH (some a0) h Gv) h fun v32 h=>
 ag (ah v20 true) (fun Kl=>
 aH (aV none v32 h fun v _=>some v) h Kl) h fun gY h=>
 ag (ah v20 true) (fun QM=>
 aH (fieldAddrB none 0 gY h fun v _=>some v) h QM) h fun iP h=>
 ag (ah v20 true) (fun QN=>
 aH (load1 none iP h fun v _=>some v) h QN) h fun mu h=>
 ag (ah v20 true) (fun U7=>
 aH (au none prog .geq 3 false false v30 mu h fun v _=>some v) h U7) h fun v40 h=>
 aH (bf none v20 v40 (.bool false) h fun v _=>some v) h fun v41 h=>
 aH (some v41) h fun iD h=>
 ag (ah iD false) (fun K43=>
 aH (some a0) h K43) h fun v44 h=>
 ag (ah iD false) (fun ZY=>
 aH (aV none v44 h fun v _=>some v) h ZY) h fun v46 h=>
 ag (ah iD false) (fun Zq=>
 aH (fieldAddrB none 1 v46 h fun v _=>some v) h Zq) h fun jH h=>
 ag (ah iD false) (fun UW=>
 aH (load1 none jH h fun v _=>some v) h UW) h fun v50 h=>
 ag (ah iD false) (fun Zr=>
 aH (some a0) h Zr) h fun nR h=>
 ag (ah iD false) (fun K53=>
 aH (aV none nR h fun v _=>some v) h K53) h fun v54 h=>
 ag (ah iD false) (fun K55=>
 aH (fieldAddrB none 1 v54 h fun v _=>some v) h K55) h fun qa h=>
 ag (ah iD false) (fun K57=>
 aH (load1 none qa h fun v _=>some v) h K57) h fun v58 h=>
 ag (ah iD false) (fun K59=>
 CallW prog 84 [v50] h fun v60 h=>
 dM ((UA (ah iD false) (gz (some a0) nR)) && ((UA (ah iD false) (gz (aV none nR h fun v _=>some v) v54)) && ((UA (ah iD false) (gz (fieldAddrB none 1 v54 h fun v _=>some v) qa)) && ((UA (ah iD false) (gz (load1 none qa h fun v _=>some v) v58)) && true)))) (K59 v60 h)) h fun qp h=>
 ag (ah iD false) (fun K62=>
 CallW prog 85 [v58] h K62) h fun oh h=>
 ag (ah iD false) (fun K64=>
 aH (au none prog .geq 3 false false qp oh h fun v _=>some v) h K64) h fun mX h=>
 aH (bf none iD (.bool true) mX h fun v _=>some v) h fun v66 h=>
 ay v66 (
 κ (Value.tuple (Array.mk [(.int .i64 0),(.bool false),(.int .i64 8)])) h) (
 BB b1 v17 a0 v16 a2 a3 h κ)
def IT (b1:Nat) (a0 a2 a3:Value) (h:Heap) (κ:KQ):Prop :=
 aD False 2 (ptrTo b1) h fun v10 h=>
 CallW prog 47 [a0,v10,a2] h fun v11 h=>
 av False 0 v11 h fun v12 h=>
 av False 1 v11 h fun bI h=>
 ay bI (
 κ (Value.tuple (Array.mk [(.int .i64 0),(.bool false),(.int .i64 4)])) h) (
 IS b1 a0 a2 a3 h κ)
theorem ZZ (a0 a1 a2 a3:Value) (h:Heap) (κ:KQ):aM prog 52 [a0,a1,a2,a3] h κ = (
 ax False (Value.cells a1).toList 36 false fun o0 => aj False o0 h fun b1 h=>
 au False prog .eql 37 true false a3 (.int .i64 0) h fun v2 h=>
 ag (ah v2 false) (fun K3=>
 K3 a3 h) h fun v4 h=>
 ag (ah v2 false) (fun K5=>
 CallW prog 50 [v4] h K5) h fun v6 h=>
 ag (ah v2 false) (fun K7=>
 jv False .not v6 h K7) h fun v8 h=>
 bf False v2 (.bool true) v8 h fun v9 h=>
 ay v9 (
 κ (Value.tuple (Array.mk [(.int .i64 0),(.bool false),(.int .i64 2)])) h) (
 IT b1 a0 a2 a3 h κ)) := by kernel_rfl
def IU (Tp b8:Nat) (ct:List Value) (Yr:List Value→Heap→Prop) (bR v19 v23 v24 v25:Value) (h:Heap):Prop :=
 fieldAddrB False 1 (ptrTo Tp) h fun v26 h=>
 load1 False v26 h fun v27 h=>
 fieldAddrB False 0 (ptrTo b8) h fun v28 h=>
 aD False 2 v28 h fun fG h=>
 fieldAddrB False 2 (ptrTo Tp) h fun v30 h=>
 load1 False v30 h fun v31 h=>
 bC False [(0,1),(1,2),(3,1)] [v27,fG,v31] [(.int .i64 0),(.int .i64 0),(.int .i64 0),(.int .i64 0)] fun Z0=>
 bC False [(0,4)] [(Value.agg (Array.mk Z0))] (aU [(.int .i64 0),(.int .i64 0),(.int .i64 0),(.int .i64 0)] 1) fun U8 => ax False U8 60 false fun Z1 => aj False Z1 h fun U9 h=>
 bu False 60 4 [(.int .i64 0),(.int .i64 0),(.int .i64 0),(.int .i64 0)] false (slot ct 17) (sliceTo 1 1 U9) h fun iP h=>
 Yr [bR,v19,(ptrTo Tp),v23,v24,v25,(slot ct 17),v26,v27,v28,fG,v30,v31,(Value.agg (Array.mk Z0)),(sliceTo 1 1 U9),iP,iP] h
def IV (v11:Value) (ct:List Value) (b8:Nat) (Yr:List Value→Heap→Prop) (h:Heap):Prop :=
 aq False 5 v11 (slot ct 19) h fun bR h=>
 aD False 5 bR h fun v19 h=>
 ax False [(.int .i64 0),(.int .i64 0),(.int .i64 0),(.int .i64 0),(.int .i64 0)] 83 false fun o20 => aj False o20 h fun Tp h=>
 aI False 5 (ptrTo Tp) v19 h fun v22 h=>
 fieldAddrB False 2 (ptrTo Tp) h fun v23 h=>
 load1 False v23 h fun v24 h=>
 au False prog .neq 37 true false v24 (.int .i64 0) h fun v25 h=>
 ay v25 (
 IU Tp b8 ct Yr bR v19 v23 v24 v25 h) (
 Yr [bR,v19,(ptrTo Tp),v23,v24,v25,(slot ct 7),(slot ct 8),(slot ct 9),(slot ct 10),(slot ct 11),(slot ct 12),(slot ct 13),(slot ct 14),(slot ct 15),(slot ct 16),(slot ct 17)] h)
def BC (ct:List Value) (v12 v11:Value) (b8:Nat) (Cy:List Value→Heap→Prop) (l3:List Value) (N2:List Value→Heap→Prop) (v4 v5 v6 v10:Value) (h:Heap):Prop :=
 au False prog .lss 3 false false (slot ct 19) v12 h fun bN h=>
 ay bN (
 dD (fun Yr=>
 IV v11 ct b8 Yr h) fun DG h=>
 au False prog .add 3 true false (slot ct 19) (.int .i64 1) h fun v37 h=>
 Cy [bN,(slot DG 0),(slot DG 1),(slot DG 2),(slot DG 3),(slot DG 4),(slot DG 5),(slot DG 6),(slot DG 7),(slot DG 8),(slot DG 9),(slot DG 10),(slot DG 11),(slot DG 12),(slot DG 13),(slot DG 14),(slot DG 15),(slot DG 16),v37,v37] h) (
 au False prog .add 3 true false (slot l3 28) (.int .i64 1) h fun mu h=>
 N2 [v4,v5,v6,(ptrTo b8),v10,v11,v12,bN,(slot ct 1),(slot ct 2),(slot ct 3),(slot ct 4),(slot ct 5),(slot ct 6),(slot ct 7),(slot ct 8),(slot ct 9),(slot ct 10),(slot ct 11),(slot ct 12),(slot ct 13),(slot ct 14),(slot ct 15),(slot ct 16),(slot ct 17),(slot ct 18),(slot ct 19),mu,mu] h)
def IW (v0:Value) (l3:List Value) (N2:List Value→Heap→Prop) (v4:Value) (h:Heap):Prop :=
 aq False 4 v0 (slot l3 28) h fun v5 h=>
 aD False 4 v5 h fun v6 h=>
 ax False [(.int .i64 0),(.int .i64 0),(.slice none 0 0),(.int .i64 0)] 81 false fun o7 => aj False o7 h fun b8 h=>
 aI False 4 (ptrTo b8) v6 h fun v9 h=>
 fieldAddrB False 2 (ptrTo b8) h fun v10 h=>
 load1 False v10 h fun v11 h=>
 br False v11 h fun v12 h=>
 b6 [(slot l3 7),(slot l3 8),(slot l3 9),(slot l3 10),(slot l3 11),(slot l3 12),(slot l3 13),(slot l3 14),(slot l3 15),(slot l3 16),(slot l3 17),(slot l3 18),(slot l3 19),(slot l3 20),(slot l3 21),(slot l3 22),(slot l3 23),(slot l3 24),(slot l3 25),(.int .i64 0)] h fun ct h Cy=>
 BC ct v12 v11 b8 Cy l3 N2 v4 v5 v6 v10 h
theorem Z2 (a0:Value) (h:Heap) (κ:KQ):aM prog 53 [a0] h κ = (
 CallW prog 65 [a0] h fun v0 h=>
 br False v0 h fun v1 h=>
 b6 [undef,undef,undef,undef,undef,undef,undef,undef,undef,undef,undef,undef,undef,undef,undef,undef,undef,undef,undef,undef,undef,undef,undef,undef,(.slice none 0 0),undef,undef,undef,(.int .i64 0)] h fun l3 h N2=>
 au False prog .lss 3 false false (slot l3 28) v1 h fun v4 h=>
 ay v4 (
 IW v0 l3 N2 v4 h) (
 CallW prog 88 [(slot l3 24),(Value.func (.func 89) (Array.mk []) (Array.mk []))] h fun v39 h=>
 κ (slot l3 24) h)) := by kernel_rfl
def BD (ct:List Value) (GC:List Value) (v12:Value) (Cy:List Value→Heap→Prop) (bN v16 v19 v20 v21 v22 v23 v25 v27 fG v31 v33 v35 v37 v39 v41 gM v45 jQ jH:Value) (h:Heap):Prop :=
 bC False [] [] (aU [(.int .i64 0),(.int .i64 0),(.slice none 0 0),(.int .i64 0)] 0) fun ae_ => ax False ae_ 81 false fun o50 => aj False o50 h fun DH h=>
 sliceB False 81 4 (slot ct 43) none (some (slot GC 20)) none h fun v53 h=>
 bu False 81 4 [(.int .i64 0),(.int .i64 0),(.slice none 0 0),(.int .i64 0)] false (sliceTo 0 0 DH) v53 h fun v54 h=>
 aq False 4 v12 (slot ct 46) h fun v55 h=>
 aD False 4 v55 h fun qa h=>
 bC False [(0,4)] [qa] (aU [(.int .i64 0),(.int .i64 0),(.slice none 0 0),(.int .i64 0)] 1) fun afb => ax False afb 81 false fun o57 => aj False o57 h fun b58 h=>
 bu False 81 4 [(.int .i64 0),(.int .i64 0),(.slice none 0 0),(.int .i64 0)] false v54 (sliceTo 1 1 b58) h fun v60 h=>
 sliceB False 81 4 (slot ct 43) (some (slot GC 20)) none none h fun qp h=>
 bu False 81 4 [(.int .i64 0),(.int .i64 0),(.slice none 0 0),(.int .i64 0)] false v60 qp h fun sX h=>
 au False prog .add 3 true false (slot ct 46) (.int .i64 1) h fun oh h=>
 Cy [(slot ct 46),v12,bN,v16,v19,v20,v21,v22,v23,v25,v27,fG,v31,v33,v35,v37,v39,v41,gM,v45,jQ,jH,(slot GC 18),(slot GC 19),(slot GC 20),(sliceTo 0 0 DH),(slot ct 43),(slot GC 20),v53,v54,v54,v12,(slot ct 46),v55,qa,(sliceTo 1 1 b58),v60,v60,v60,(slot ct 43),(slot GC 20),qp,sX,sX,(slot ct 46),oh,oh] h
def BE (GC:List Value) (ct:List Value) (v12:Value) (N17:List Value→Heap→Prop) (Cy:List Value→Heap→Prop) (bN v16:Value) (h:Heap):Prop :=
 aH (some (slot GC 20)) h fun v19 h=>
 aH (some (slot ct 43)) h fun v20 h=>
 aH (br none v20 h fun v _=>some v) h fun v21 h=>
 aH (au none prog .lss 3 false false v19 v21 h fun v _=>some v) h fun v22 h=>
 aH (some v22) h fun v23 h=>
 ag (ah v23 true) (fun DC=>
 aH (some (slot ct 43)) h DC) h fun v25 h=>
 ag (ah v23 true) (fun Bs=>
 aH (some (slot GC 20)) h Bs) h fun v27 h=>
 ag (ah v23 true) (fun DB=>
 aH (aq none 4 v25 v27 h fun v _=>some v) h DB) h fun fG h=>
 ag (ah v23 true) (fun Gr=>
 aH (fieldAddrB none 0 fG h fun v _=>some v) h Gr) h fun v31 h=>
 ag (ah v23 true) (fun QJ=>
 aH (aD none 2 v31 h fun v _=>some v) h QJ) h fun v33 h=>
 ag (ah v23 true) (fun Z3=>
 aH (some v12) h Z3) h fun v35 h=>
 ag (ah v23 true) (fun U_=>
 aH (some (slot ct 46)) h U_) h fun v37 h=>
 ag (ah v23 true) (fun Va=>
 aH (aq none 4 v35 v37 h fun v _=>some v) h Va) h fun v39 h=>
 ag (ah v23 true) (fun QO=>
 aH (fieldAddrB none 0 v39 h fun v _=>some v) h QO) h fun v41 h=>
 ag (ah v23 true) (fun QS=>
 aH (aD none 2 v41 h fun v _=>some v) h QS) h fun gM h=>
 ag (ah v23 true) (fun QT=>
 CallW prog 94 [v33,gM] h QT) h fun v45 h=>
 ag (ah v23 true) (fun Z4=>
 aH (au none prog .lss 3 true false v45 (.int .i64 0) h fun v _=>some v) h Z4) h fun jQ h=>
 aH (bf none v23 jQ (.bool false) h fun v _=>some v) h fun jH h=>
 ay jH (
 au False prog .add 3 true false (slot GC 20) (.int .i64 1) h fun v49 h=>
 N17 [v19,v20,v21,v22,v23,v25,v27,fG,v31,v33,v35,v37,v39,v41,gM,v45,jQ,jH,(slot GC 20),v49,v49] h) (
 BD ct GC v12 Cy bN v16 v19 v20 v21 v22 v23 v25 v27 fG v31 v33 v35 v37 v39 v41 gM v45 jQ jH h)
def BF (v12:Value) (ct:List Value) (Cy:List Value→Heap→Prop) (l1:List Value) (N0:List Value→Heap→Prop) (a0 v2 v3 v4 v5 v6 v7 v8 v9 v10 v11:Value) (h:Heap):Prop :=
 br False v12 h fun bN h=>
 au False prog .lss 3 false false (slot ct 46) bN h fun v16 h=>
 ay v16 (
 b6 [(slot ct 4),(slot ct 5),(slot ct 6),(slot ct 7),(slot ct 8),(slot ct 9),(slot ct 10),(slot ct 11),(slot ct 12),(slot ct 13),(slot ct 14),(slot ct 15),(slot ct 16),(slot ct 17),(slot ct 18),(slot ct 19),(slot ct 20),(slot ct 21),(slot ct 22),(slot ct 23),(.int .i64 0)] h fun GC h N17=>
 BE GC ct v12 N17 Cy bN v16 h) (
 au False prog .add 3 true false (slot l1 65) (.int .i64 1) h fun v64 h=>
 N0 [(slot l1 65),a0,v2,v3,v4,v5,v6,a0,v7,v8,v9,(slot l1 65),v10,v11,v12,v12,(slot ct 46),v12,bN,v16,(slot ct 4),(slot ct 5),(slot ct 6),(slot ct 7),(slot ct 8),(slot ct 9),(slot ct 10),(slot ct 11),(slot ct 12),(slot ct 13),(slot ct 14),(slot ct 15),(slot ct 16),(slot ct 17),(slot ct 18),(slot ct 19),(slot ct 20),(slot ct 21),(slot ct 22),(slot ct 23),(slot ct 24),(slot ct 25),(slot ct 26),(slot ct 27),(slot ct 28),(slot ct 29),(slot ct 30),(slot ct 31),(slot ct 32),(slot ct 33),(slot ct 34),(slot ct 35),(slot ct 36),(slot ct 37),(slot ct 38),(slot ct 39),(slot ct 40),(slot ct 41),(slot ct 42),(slot ct 43),(slot ct 44),(slot ct 45),(slot ct 46),(slot l1 65),v64,v64] h)
def IX (a0:Value) (l1:List Value) (N0:List Value→Heap→Prop) (v2 v3 v4 v5 v6:Value) (h:Heap):Prop :=
 aV False a0 h fun v7 h=>
 fieldAddrB False 4 v7 h fun v8 h=>
 load1 False v8 h fun v9 h=>
 aq False 1 v9 (slot l1 65) h fun v10 h=>
 load1 False v10 h fun v11 h=>
 CallW prog 93 [v11] h fun v12 h=>
 b6 [(slot l1 16),(slot l1 17),(slot l1 18),(slot l1 19),(slot l1 20),(slot l1 21),(slot l1 22),(slot l1 23),(slot l1 24),(slot l1 25),(slot l1 26),(slot l1 27),(slot l1 28),(slot l1 29),(slot l1 30),(slot l1 31),(slot l1 32),(slot l1 33),(slot l1 34),(slot l1 35),(slot l1 36),(slot l1 37),(slot l1 38),(slot l1 39),(slot l1 40),(slot l1 41),(slot l1 42),(slot l1 43),(slot l1 44),(slot l1 45),(slot l1 46),(slot l1 47),(slot l1 48),(slot l1 49),(slot l1 50),(slot l1 51),(slot l1 52),(slot l1 53),(slot l1 54),(slot l1 55),(slot l1 56),(slot l1 57),(slot l1 58),(slot l1 59),(slot l1 60),(slot l1 61),(.int .i64 0)] h fun ct h Cy=>
 BF v12 ct Cy l1 N0 a0 v2 v3 v4 v5 v6 v7 v8 v9 v10 v11 h
def BG (a0:Value) (l1:List Value) (N0:List Value→Heap→Prop) (h:Heap) (κ:KQ):Prop :=
 aV False a0 h fun v2 h=>
 fieldAddrB False 4 v2 h fun v3 h=>
 load1 False v3 h fun v4 h=>
 br False v4 h fun v5 h=>
 au False prog .lss 3 false false (slot l1 65) v5 h fun v6 h=>
 ay v6 (
 IX a0 l1 N0 v2 v3 v4 v5 v6 h) (
 κ (slot l1 59) h)
theorem Z5 (a0:Value) (h:Heap) (κ:KQ):aM prog 54 [a0] h κ = (
 b6 [undef,undef,undef,undef,undef,undef,undef,undef,undef,undef,undef,undef,undef,undef,undef,undef,undef,undef,undef,undef,undef,undef,undef,undef,undef,undef,undef,undef,undef,undef,undef,undef,undef,undef,undef,undef,undef,undef,undef,undef,undef,undef,undef,undef,undef,undef,undef,undef,undef,undef,undef,undef,undef,undef,undef,undef,undef,undef,undef,(.slice none 0 0),undef,undef,undef,undef,undef,(.int .i64 0)] h fun l1 h N0=>
 BG a0 l1 N0 h κ) := by kernel_rfl
def BH (a0:Value) (l1:List Value) (a1:Value) (h:Heap) (κ:KQ):Prop :=
 bC False [] [] (aU [(.int .i64 0)] 0) fun U8 => ax False U8 3 false fun Z1 => aj False Z1 h fun U9 h=>
 sliceB False 3 1 a0 none (some (slot l1 14)) none h fun iP h=>
 bu False 3 1 [(.int .i64 0)] false (sliceTo 0 0 U9) iP h fun v37 h=>
 bC False [(0,1)] [a1] (aU [(.int .i64 0)] 1) fun afd => ax False afd 3 false fun o38 => aj False o38 h fun b39 h=>
 bu False 3 1 [(.int .i64 0)] false v37 (sliceTo 1 1 b39) h fun v41 h=>
 sliceB False 3 1 a0 (some (slot l1 14)) none none h fun iD h=>
 bu False 3 1 [(.int .i64 0)] false v41 iD h fun gM h=>
 κ gM h
def vv (a0:Value) (l1:List Value) (a1:Value) (h:Heap) (κ:KQ):Prop :=
 br False a0 h fun bR h=>
 au False prog .lss 3 false false (slot l1 14) bR h fun v19 h=>
 ag (ah v19 true) (fun DI=>
 DI a0 h) h fun v21 h=>
 ag (ah v19 true) (fun K22=>
 K22 (slot l1 14) h) h fun v23 h=>
 ag (ah v19 true) (fun DC=>
 aq False 1 v21 v23 h DC) h fun v25 h=>
 ag (ah v19 true) (fun Bs=>
 load1 False v25 h Bs) h fun v27 h=>
 ag (ah v19 true) (fun DB=>
 DB a1 h) h fun fG h=>
 ag (ah v19 true) (fun Gr=>
 au False prog .eql 3 false false v27 fG h Gr) h fun v31 h=>
 bf False v19 v31 (.bool false) h fun v32 h=>
 ay v32 (
 κ a0 h) (
 BH a0 l1 a1 h κ)
def sk (a0:Value) (l1:List Value) (a1:Value) (N0:List Value→Heap→Prop) (h:Heap) (κ:KQ):Prop :=
 br False a0 h fun v2 h=>
 au False prog .lss 3 false false (slot l1 14) v2 h fun v3 h=>
 ag (ah v3 true) (fun K4=>
 K4 a0 h) h fun v5 h=>
 ag (ah v3 true) (fun K6=>
 K6 (slot l1 14) h) h fun v7 h=>
 ag (ah v3 true) (fun K8=>
 aq False 1 v5 v7 h K8) h fun v9 h=>
 ag (ah v3 true) (fun oS=>
 load1 False v9 h oS) h fun v11 h=>
 ag (ah v3 true) (fun mN=>
 mN a1 h) h fun bI h=>
 ag (ah v3 true) (fun ry=>
 au False prog .lss 3 false false v11 bI h ry) h fun bN h=>
 bf False v3 bN (.bool false) h fun v16 h=>
 ay v16 (
 au False prog .add 3 true false (slot l1 14) (.int .i64 1) h fun v17 h=>
 N0 [(slot l1 14),a0,v2,v3,v3,v5,v7,v9,v11,bI,bN,v16,(slot l1 14),v17,v17] h) (
 vv a0 l1 a1 h κ)
theorem Z6 (a0 a1:Value) (h:Heap) (κ:KQ):aM prog 55 [a0,a1] h κ = (
 b6 [undef,undef,undef,undef,undef,undef,undef,undef,undef,undef,undef,undef,undef,undef,(.int .i64 0)] h fun l1 h N0=>
 sk a0 l1 a1 N0 h κ) := by kernel_rfl
def IY (v0:Value) (l2:List Value) (a1 v9:Value) (N5:List Value→Heap→Prop) (v7 v8 v10:Value) (h:Heap):Prop :=
 aq False 4 v0 (slot l2 27) h fun v11 h=>
 fieldAddrB False 0 v11 h fun v12 h=>
 aD False 2 v12 h fun bI h=>
 bC False [(0,1),(1,2),(3,1)] [a1,bI,v9] [(.int .i64 0),(.int .i64 0),(.int .i64 0),(.int .i64 0)] fun Z7=>
 bC False [(0,4)] [(Value.agg (Array.mk Z7))] (aU [(.int .i64 0),(.int .i64 0),(.int .i64 0),(.int .i64 0)] 1) fun GD => ax False GD 60 false fun Z8 => aj False Z8 h fun Tq h=>
 bu False 60 4 [(.int .i64 0),(.int .i64 0),(.int .i64 0),(.int .i64 0)] false (slot l2 24) (sliceTo 1 1 Tq) h fun bR h=>
 N5 [v0,(slot l2 27),v7,v8,a1,v9,v9,v9,v10,(slot l2 24),a1,v0,(slot l2 27),v11,v12,bI,v9,(Value.agg (Array.mk Z7)),(sliceTo 1 1 Tq),bR,bR] h
def IZ (v0:Value) (l2:List Value) (a1:Value) (N5:List Value→Heap→Prop) (h:Heap):Prop :=
 aq False 4 v0 (slot l2 27) h fun v7 h=>
 aD False 4 v7 h fun v8 h=>
 CallW prog 95 [v8,a1] h fun v9 h=>
 au False prog .neq 37 true false v9 (.int .i64 0) h fun v10 h=>
 ay v10 (
 IY v0 l2 a1 v9 N5 v7 v8 v10 h) (
 N5 [v0,(slot l2 27),v7,v8,a1,v9,v9,v9,v10,(slot l2 13),(slot l2 14),(slot l2 15),(slot l2 16),(slot l2 17),(slot l2 18),(slot l2 19),(slot l2 20),(slot l2 21),(slot l2 22),(slot l2 23),(slot l2 24)] h)
def BI (v0:Value) (l2:List Value) (a1:Value) (N1:List Value→Heap→Prop) (h:Heap) (κ:KQ):Prop :=
 br False v0 h fun v3 h=>
 au False prog .lss 3 false false (slot l2 27) v3 h fun v4 h=>
 ay v4 (
 dD (fun N5=>
 IZ v0 l2 a1 N5 h) fun l6 h=>
 au False prog .add 3 true false (slot l2 27) (.int .i64 1) h fun v19 h=>
 N1 [(slot l2 27),v0,v3,v4,(slot l6 0),(slot l6 1),(slot l6 2),(slot l6 3),(slot l6 4),(slot l6 5),(slot l6 6),(slot l6 7),(slot l6 8),(slot l6 9),(slot l6 10),(slot l6 11),(slot l6 12),(slot l6 13),(slot l6 14),(slot l6 15),(slot l6 16),(slot l6 17),(slot l6 18),(slot l6 19),(slot l6 20),(slot l2 27),v19,v19] h) (
 κ (slot l2 24) h)
theorem Z9 (a0 a1:Value) (h:Heap) (κ:KQ):aM prog 56 [a0,a1] h κ = (
 CallW prog 54 [a0] h fun v0 h=>
 b6 [undef,undef,undef,undef,undef,undef,undef,undef,undef,undef,undef,undef,undef,undef,undef,undef,undef,undef,undef,undef,undef,undef,undef,undef,(.slice none 0 0),undef,undef,(.int .i64 0)] h fun l2 h N1=>
 BI v0 l2 a1 N1 h κ) := by kernel_rfl
def I1 (b1:Nat) (h:Heap) (κ:KQ):Prop :=
 fieldAddrB False 0 (ptrTo b1) h fun v5 h=>
 load1 False v5 h fun v6 h=>
 au False prog .lss 3 true false v6 (.int .i64 0) h fun v7 h=>
 ag (ah v7 false) (fun K8=>
 fieldAddrB False 0 (ptrTo b1) h K8) h fun v9 h=>
 ag (ah v7 false) (fun oS=>
 load1 False v9 h oS) h fun v11 h=>
 ag (ah v7 false) (fun mN=>
 au False prog .geq 3 true false v11 (.int .i64 100) h mN) h fun bI h=>
 bf False v7 (.bool true) bI h fun bO h=>
 ag (ah bO false) (fun Vb=>
 fieldAddrB False 1 (ptrTo b1) h Vb) h fun v16 h=>
 ag (ah bO false) (fun M8=>
 load1 False v16 h M8) h fun bR h=>
 ag (ah bO false) (fun Bt=>
 au False prog .lss 3 true false bR (.int .i64 (-1)) h Bt) h fun v20 h=>
 bf False bO (.bool true) v20 h fun v21 h=>
 ag (ah v21 false) (fun K22=>
 fieldAddrB False 1 (ptrTo b1) h K22) h fun v23 h=>
 ag (ah v21 false) (fun DC=>
 load1 False v23 h DC) h fun v25 h=>
 ag (ah v21 false) (fun Bs=>
 au False prog .geq 3 true false v25 (.int .i64 100) h Bs) h fun v27 h=>
 bf False v21 (.bool true) v27 h fun v28 h=>
 ay v28 (
 κ (.int .i64 (-1)) h) (
 fieldAddrB False 1 (ptrTo b1) h fun fG h=>
 load1 False fG h fun v30 h=>
 au False prog .eql 3 true false v30 (.int .i64 (-1)) h fun v31 h=>
 ay v31 (
 κ (.int .i64 1) h) (
 κ (.int .i64 2) h))
theorem Z_ (a0:Value) (h:Heap) (κ:KQ):aM prog 57 [a0] h κ = (
 ax False (Value.cells a0).toList 36 false fun o0 => aj False o0 h fun b1 h=>
 aH (aD none 2 (ptrTo b1) h fun v _=>some v) h fun v2 h=>
 CallW prog 96 [] h fun v3 h=>
 dM ((gz (aD none 2 (ptrTo b1) h fun v _=>some v) v2) && true) (aH (au none prog .eql 36 false false v2 v3 h fun v _=>some v) h fun v4 h=>
 ay v4 (
 κ (.int .i64 0) h) (
 I1 b1 h κ))) := by kernel_rfl
theorem aaa (a0 a1:Value) (h:Heap) (κ:KQ):aM prog 61 [a0,a1] h κ = (
 CallW prog 99 [a0,a1,(.int .i64 1)] h fun v0 h=>
 κ v0 h) := by kernel_rfl
def I3 (a0 a1:Value) (h:Heap) (κ:KQ):Prop :=
 aV False a0 h fun v19 h=>
 fieldAddrB False 0 v19 h fun v20 h=>
 load1 False v20 h fun v21 h=>
 aq False 1 v21 a1 h fun v22 h=>
 load1 False v22 h fun v23 h=>
 aV False v23 h fun v24 h=>
 fieldAddrB False 0 v24 h fun v25 h=>
 load1 False v25 h fun v26 h=>
 κ (Value.tuple (Array.mk [v26,(.bool true)])) h
theorem aab (a0 a1:Value) (h:Heap) (κ:KQ):aM prog 62 [a0,a1] h κ = (
 CallW prog 100 [a0,a1,(.int .i64 0)] h fun v0 h=>
 au False prog .neq 26 true false v0 (.int .i64 0) h fun v1 h=>
 ag (ah v1 false) (fun K2=>
 K2 a0 h) h fun v3 h=>
 ag (ah v1 false) (fun K4=>
 aV False v3 h K4) h fun v5 h=>
 ag (ah v1 false) (fun K6=>
 fieldAddrB False 0 v5 h K6) h fun v7 h=>
 ag (ah v1 false) (fun K8=>
 load1 False v7 h K8) h fun v9 h=>
 ag (ah v1 false) (fun oS=>
 oS a1 h) h fun v11 h=>
 ag (ah v1 false) (fun mN=>
 aq False 1 v9 v11 h mN) h fun bI h=>
 ag (ah v1 false) (fun ry=>
 load1 False bI h ry) h fun bN h=>
 ag (ah v1 false) (fun uS=>
 au False prog .eql 176 true false bN (.pointer none) h uS) h fun v17 h=>
 bf False v1 (.bool true) v17 h fun bR h=>
 ay bR (
 κ (Value.tuple (Array.mk [(.int .i64 0),(.bool false)])) h) (
 I3 a0 a1 h κ)) := by kernel_rfl
def BJ (l6:List Value) (v4 v3:Value) (N5:List Value→Heap→Prop) (h:Heap) (κ:KQ):Prop :=
 au False prog .lss 3 false false (slot l6 10) v4 h fun v7 h=>
 ay v7 (
 aq False 1 v3 (slot l6 10) h fun v8 h=>
 load1 False v8 h fun v9 h=>
 CallW prog 103 [v9] h fun v10 h=>
 bu False 81 4 [(.int .i64 0),(.int .i64 0),(.slice none 0 0),(.int .i64 0)] false (slot l6 8) v10 h fun v11 h=>
 au False prog .add 3 true false (slot l6 10) (.int .i64 1) h fun v12 h=>
 N5 [v7,v8,v9,v9,(slot l6 8),v9,v10,v11,v11,v12,v12] h) (
 CallW prog 104 [(slot l6 8),(Value.func (.func 105) (Array.mk []) (Array.mk []))] h fun bI h=>
 κ (slot l6 8) h)
theorem aac (a0:Value) (h:Heap) (κ:KQ):aM prog 65 [a0] h κ = (
 au False prog .eql 100 true false a0 (.pointer none) h fun v0 h=>
 ay v0 (
 κ (.slice none 0 0) h) (
 aV False a0 h fun v1 h=>
 fieldAddrB False 5 v1 h fun v2 h=>
 load1 False v2 h fun v3 h=>
 br False v3 h fun v4 h=>
 b6 [undef,undef,undef,undef,undef,undef,undef,undef,(.slice none 0 0),undef,(.int .i64 0)] h fun l6 h N5=>
 BJ l6 v4 v3 N5 h κ)) := by kernel_rfl
def I4 (QY:Nat) (v53:Value) (PG:List Value) (PI:List Value→Heap→Prop) (v49 v50 v51 iP nR v54 v55:Value) (h:Heap):Prop :=
 aV False (ptrTo QY) h fun qa h=>
 fieldAddrB False 5 qa h fun oR h=>
 load1 False oR h fun v58 h=>
 bC False [(0,1)] [v53] (aU [(.pointer none)] 1) fun afe => ax False afe 182 false fun o59 => aj False o59 h fun b60 h=>
 bu False 182 1 [(.pointer none)] false v58 (sliceTo 1 1 b60) h fun sX h=>
 aV False (ptrTo QY) h fun oh h=>
 fieldAddrB False 5 oh h fun v64 h=>
 aI False 1 v64 sX h fun mX h=>
 au False prog .add 3 true false (slot PG 26) (.int .i64 1) h fun v66 h=>
 PI [v49,v50,v51,iP,nR,nR,v53,v54,v53,v54,v54,v55,(slot PG 12),(slot PG 13),(slot PG 14),(ptrTo QY),(ptrTo QY),qa,oR,v58,v53,(sliceTo 1 1 b60),sX,oh,v64,v66,v66] h
def BK (b1:Nat) (iP:Value) (QY:Nat) (PG:List Value) (PI:List Value→Heap→Prop) (v49:Value) (h:Heap) (κ:KQ):Prop :=
 fieldAddrB False 1 (ptrTo b1) h fun v50 h=>
 load1 False v50 h fun v51 h=>
 CallW prog 109 [v51,iP] h fun nR h=>
 av False 0 nR h fun v53 h=>
 av False 1 nR h fun v54 h=>
 au False prog .neq 26 true false v54 (.int .i64 0) h fun v55 h=>
 ay v55 (
 κ (Value.tuple (Array.mk [(.pointer none),v54])) h) (
 I4 QY v53 PG PI v49 v50 v51 iP nR v54 v55 h)
def I5 (b1:Nat) (iP:Value) (h:Heap) (κ:KQ):Prop :=
 aD False 4 (ptrTo b1) h fun v39 h=>
 aj False (.map [] 0) h fun b41 h=>
 bC False [(0,4),(4,1),(6,1)] [v39,iP,(iQ b41)] [(.int .i64 0),(.int .i64 0),(.int .i64 0),(.int .i64 0),(.pointer none),(.slice none 0 0),(Value.map none)] fun aff=>
 ax False (Value.cells (Value.agg (Array.mk aff))).toList 147 false fun o43 => aj False o43 h fun QY h=>
 fieldAddrB False 0 (ptrTo b1) h fun v45 h=>
 load1 False v45 h fun v46 h=>
 b6 [undef,undef,undef,undef,undef,undef,undef,undef,undef,undef,undef,undef,undef,(.pointer none),(.int .i64 0),undef,undef,undef,undef,undef,undef,undef,undef,undef,undef,undef,(.int .i64 0)] h fun PG h PI=>
 au False prog .lss 3 false false (slot PG 26) v46 h fun v49 h=>
 ay v49 (
 BK b1 iP QY PG PI v49 h κ) (
 κ (Value.tuple (Array.mk [(ptrTo QY),(.int .i64 0)])) h)
def I6 (b1:Nat) (h:Heap) (κ:KQ):Prop :=
 fieldAddrB False 2 (ptrTo b1) h fun v33 h=>
 load1 False v33 h fun gY h=>
 CallW prog 108 [gY] h fun v35 h=>
 av False 0 v35 h fun iP h=>
 av False 1 v35 h fun v37 h=>
 au False prog .neq 26 true false v37 (.int .i64 0) h fun mu h=>
 ay mu (
 κ (Value.tuple (Array.mk [(.pointer none),v37])) h) (
 I5 b1 iP h κ)
theorem aad (a0:Value) (h:Heap) (κ:KQ):aM prog 67 [a0] h κ = (
 ax False (Value.cells a0).toList 30 false fun o0 => aj False o0 h fun b1 h=>
 fieldAddrB False 0 (ptrTo b1) h fun v2 h=>
 load1 False v2 h fun v3 h=>
 au False prog .lss 3 true false v3 (.int .i64 1) h fun v4 h=>
 ag (ah v4 false) (fun K5=>
 fieldAddrB False 0 (ptrTo b1) h K5) h fun v6 h=>
 ag (ah v4 false) (fun K7=>
 load1 False v6 h K7) h fun v8 h=>
 ag (ah v4 false) (fun K9=>
 au False prog .gtr 3 true false v8 (.int .i64 16) h K9) h fun v10 h=>
 bf False v4 (.bool true) v10 h fun v11 h=>
 ag (ah v11 false) (fun mN=>
 fieldAddrB False 3 (ptrTo b1) h mN) h fun bI h=>
 ag (ah v11 false) (fun ry=>
 load1 False bI h ry) h fun bN h=>
 ag (ah v11 false) (fun uS=>
 au False prog .lss 3 true false bN (.int .i64 0) h uS) h fun v17 h=>
 bf False v11 (.bool true) v17 h fun bR h=>
 ag (ah bR false) (fun Bt=>
 fieldAddrB False 3 (ptrTo b1) h Bt) h fun v20 h=>
 ag (ah bR false) (fun DD=>
 load1 False v20 h DD) h fun v22 h=>
 ag (ah bR false) (fun DE=>
 au False prog .gtr 3 true false v22 (.int .i64 8) h DE) h fun v24 h=>
 bf False bR (.bool true) v24 h fun v25 h=>
 ag (ah v25 false) (fun Bs=>
 fieldAddrB False 2 (ptrTo b1) h Bs) h fun v27 h=>
 ag (ah v25 false) (fun DB=>
 load1 False v27 h DB) h fun fG h=>
 ag (ah v25 false) (fun Gr=>
 au False prog .lss 3 true false fG (.int .i64 1) h Gr) h fun v31 h=>
 bf False v25 (.bool true) v31 h fun v32 h=>
 ay v32 (
 κ (Value.tuple (Array.mk [(.pointer none),(.int .i64 2)])) h) (
 I6 b1 h κ)) := by kernel_rfl
theorem aae (a0:Value) (h:Heap) (κ:KQ):aM prog 68 [a0] h κ = (
 au False prog .lss 3 true false a0 (.int .i64 1) h fun v0 h=>
 ag (ah v0 false) (fun K1=>
 K1 a0 h) h fun v2 h=>
 ag (ah v0 false) (fun K3=>
 au False prog .gtr 3 true false v2 (.int .i64 8) h K3) h fun v4 h=>
 bf False v0 (.bool true) v4 h fun v5 h=>
 ay v5 (
 κ (Value.tuple (Array.mk [(.pointer none),(.int .i64 2)])) h) (
 MX False a0 a0 [(.int .i64 0)] 3 h fun v8 h=>
 bC False [(0,1)] [v8] [(.slice none 0 0)] fun UY=>
 ax False (Value.cells (Value.agg (Array.mk UY))).toList 193 false fun QW => aj False QW h fun Iz h=>
 κ (Value.tuple (Array.mk [(ptrTo Iz),(.int .i64 0)])) h)) := by kernel_rfl
theorem aaf (a0:Value) (h:Heap) (κ:KQ):aM prog 69 [a0] h κ = (
 au False prog .lss 3 true false a0 (.int .i64 1) h fun v0 h=>
 ag (ah v0 false) (fun K1=>
 K1 a0 h) h fun v2 h=>
 ag (ah v0 false) (fun K3=>
 au False prog .gtr 3 true false v2 (.int .i64 16) h K3) h fun v4 h=>
 bf False v0 (.bool true) v4 h fun v5 h=>
 ay v5 (
 κ (Value.tuple (Array.mk [(.pointer none),(.int .i64 2)])) h) (
 MX False a0 a0 [(.pointer none)] 176 h fun v8 h=>
 bC False [(0,1)] [v8] [(.slice none 0 0)] fun UY=>
 ax False (Value.cells (Value.agg (Array.mk UY))).toList 179 false fun QW => aj False QW h fun Iz h=>
 κ (Value.tuple (Array.mk [(ptrTo Iz),(.int .i64 0)])) h)) := by kernel_rfl
theorem aag (h:Heap) (κ:KQ):aM prog 70 [] h κ = (
 bC False [] [] [(.int .i64 0),(.slice none 0 0)] fun cs0=>
 ax False (Value.cells (Value.agg (Array.mk cs0))).toList 169 false fun o1 => aj False o1 h fun b2 h=>
 κ (ptrTo b2) h) := by kernel_rfl
theorem aah (a0:Value) (h:Heap) (κ:KQ):aM prog 71 [a0] h κ = (
 ax False (Value.cells a0).toList 36 false fun o0 => aj False o0 h fun b1 h=>
 aD False 2 (ptrTo b1) h fun v2 h=>
 CallW prog 111 [v2] h fun v3 h=>
 CallW prog 110 [v3] h fun v4 h=>
 κ v4 h) := by kernel_rfl
theorem aai (a0:Value) (h:Heap) (κ:KQ):aM prog 72 [a0] h κ = (
 ax False (Value.cells a0).toList 36 false fun o0 => aj False o0 h fun b1 h=>
 aD False 2 (ptrTo b1) h fun v2 h=>
 CallW prog 112 [v2] h fun v3 h=>
 au False prog .eql 3 true false v3 (.int .i64 (-1)) h fun v4 h=>
 ay v4 (
 κ (.int .i64 2) h) (
 κ (.int .i64 0) h)) := by kernel_rfl
theorem aaj (a0:Value) (h:Heap) (κ:KQ):aM prog 73 [a0] h κ = (
 au False prog .geq 37 true false a0 (.int .i64 0) h fun v0 h=>
 ag (ah v0 true) (fun K1=>
 K1 a0 h) h fun v2 h=>
 ag (ah v0 true) (fun K3=>
 au False prog .leq 37 true false v2 (.int .i64 6) h K3) h fun v4 h=>
 bf False v0 v4 (.bool false) h fun v5 h=>
 κ v5 h) := by kernel_rfl
theorem aak (a0 a1:Value) (h:Heap) (κ:KQ):aM prog 74 [a0,a1] h κ = (
 ax False (Value.cells a0).toList 36 false fun o0 => aj False o0 h fun b1 h=>
 CallW prog 113 [a1] h fun v2 h=>
 jv False .not v2 h fun v3 h=>
 ag (ah v3 false) (fun K4=>
 aD False 2 (ptrTo b1) h K4) h fun v5 h=>
 ag (ah v3 false) (fun K6=>
 CallW prog 72 [v5] h K6) h fun v7 h=>
 ag (ah v3 false) (fun K8=>
 au False prog .neq 26 true false v7 (.int .i64 0) h K8) h fun v9 h=>
 bf False v3 (.bool true) v9 h fun v10 h=>
 ay v10 (
 κ (.int .i64 (-1)) h) (
 aD False 2 (ptrTo b1) h fun v11 h=>
 CallW prog 114 [v11] h fun v12 h=>
 jb False .u32 a1 h fun bI h=>
 au False prog .rem 142 false false v12 bI h fun bO h=>
 jb False .i64 bO h fun bN h=>
 κ bN h)) := by kernel_rfl
def I7 (a0 a2 a1:Value) (h:Heap) (κ:KQ):Prop :=
 aV False a0 h fun v8 h=>
 fieldAddrB False 0 v8 h fun v9 h=>
 load1 False v9 h fun v10 h=>
 bC False [(0,1)] [a2] [(.int .i64 0)] fun UZ=>
 ax False (Value.cells (Value.agg (Array.mk UZ))).toList 181 false fun U0 => aj False U0 h fun IA h=>
 aq False 1 v10 a1 h fun bO h=>
 aI False 1 bO (ptrTo IA) h fun bN h=>
 κ (Value.tuple (Array.mk [(.bool true),(.int .i64 0)])) h
def QZ (v6 a2:Value) (h:Heap) (κ:KQ):Prop :=
 aV False v6 h fun v16 h=>
 fieldAddrB False 0 v16 h fun v17 h=>
 load1 False v17 h fun bR h=>
 au False prog .eql 3 false false bR a2 h fun v19 h=>
 ay v19 (
 κ (Value.tuple (Array.mk [(.bool false),(.int .i64 4)])) h) (
 κ (Value.tuple (Array.mk [(.bool false),(.int .i64 0)])) h)
def I8 (a0 a1 a2:Value) (h:Heap) (κ:KQ):Prop :=
 aV False a0 h fun v2 h=>
 fieldAddrB False 0 v2 h fun v3 h=>
 load1 False v3 h fun v4 h=>
 aq False 1 v4 a1 h fun v5 h=>
 load1 False v5 h fun v6 h=>
 au False prog .eql 176 true false v6 (.pointer none) h fun v7 h=>
 ay v7 (
 I7 a0 a2 a1 h κ) (
 QZ v6 a2 h κ)
theorem aal (a0 a1 a2:Value) (h:Heap) (κ:KQ):aM prog 75 [a0,a1,a2] h κ = (
 CallW prog 100 [a0,a1,a2] h fun v0 h=>
 au False prog .neq 26 true false v0 (.int .i64 0) h fun v1 h=>
 ay v1 (
 κ (Value.tuple (Array.mk [(.bool false),v0])) h) (
 I8 a0 a1 a2 h κ)) := by kernel_rfl
def BL (a0:Value) (N0:List Value→Heap→Prop) (v2 v3 v4:Value) (h:Heap):Prop :=
 aH (some a0) h fun v6 h=>
 aH (aV none v6 h fun v _=>some v) h fun v7 h=>
 aH (fieldAddrB none 0 v7 h fun v _=>some v) h fun v8 h=>
 aH (fieldAddrB none 0 v8 h fun v _=>some v) h fun v9 h=>
 aH (load1 none v9 h fun v _=>some v) h fun v10 h=>
 aH (some a0) h fun v11 h=>
 CallW prog 116 [] h fun v12 h=>
 dM ((gz (some a0) v6) && ((gz (aV none v6 h fun v _=>some v) v7) && ((gz (fieldAddrB none 0 v7 h fun v _=>some v) v8) && ((gz (fieldAddrB none 0 v8 h fun v _=>some v) v9) && ((gz (load1 none v9 h fun v _=>some v) v10) && ((gz (some a0) v11) && true)))))) (aH (dG none prog 3 Value.nilFunc false v12 v10 h fun v _=>some v) h fun bI h=>
 jC prog bI [v11] h fun bO h=>
 N0 [a0,v2,v3,v4,undef,undef,v12,v6,v7,v8,v9,v10,bI,v11,bO] h)
def BM (a0:Value) (N0:List Value→Heap→Prop) (h:Heap):Prop :=
 aV False a0 h fun v2 h=>
 fieldAddrB False 13 v2 h fun v3 h=>
 load1 False v3 h fun v4 h=>
 ay v4 (
 CallW prog 115 [a0] h fun v5 h=>
 N0 [a0,v2,v3,v4,a0,v5,undef,undef,undef,undef,undef,undef,undef,undef,undef] h) (
 BL a0 N0 v2 v3 v4 h)
theorem Tr (a0:Value) (h:Heap) (κ:KQ):aM prog 76 [a0] h κ = (
 dD (fun N0=>
 BM a0 N0 h) fun l1 h=>
 CallW prog 45 [a0,(.int .i64 3),(Value.func (.func 117) (Array.mk [a0]) (Array.mk []))] h fun bN h=>
 κ (Value.tuple (Array.mk [])) h) := by kernel_rfl
def I9 (a0:Value) (l3:List Value) (b1:Nat) (N2:List Value→Heap→Prop) (v4 v5 v6 v7 v8:Value) (h:Heap) (κ:KQ):Prop :=
 aH (some a0) h fun v9 h=>
 aH (aV none v9 h fun v _=>some v) h fun v10 h=>
 aH (fieldAddrB none 2 v10 h fun v _=>some v) h fun v11 h=>
 aH (load1 none v11 h fun v _=>some v) h fun v12 h=>
 aH (some (slot l3 27)) h fun bI h=>
 aH (aq none 4 v12 bI h fun v _=>some v) h fun bO h=>
 aH (fieldAddrB none 0 bO h fun v _=>some v) h fun bN h=>
 aH (aD none 2 bN h fun v _=>some v) h fun v16 h=>
 aH (aD none 2 (ptrTo b1) h fun v _=>some v) h fun v17 h=>
 CallW prog 94 [v16,v17] h fun bR h=>
 au False prog .geq 3 true false bR (.int .i64 0) h fun v19 h=>
 ay v19 (
 au False prog .eql 3 true false bR (.int .i64 0) h fun v20 h=>
 κ (Value.tuple (Array.mk [(slot l3 27),v20])) h) (
 au False prog .add 3 true false (slot l3 27) (.int .i64 1) h fun v21 h=>
 N2 [(slot l3 27),a0,v4,v5,v6,v7,v8,v9,v10,v11,v12,bI,bO,bN,v16,v17,bR,bR,bR,v19,(slot l3 20),(slot l3 21),(slot l3 22),(slot l3 23),(slot l3 24),(slot l3 27),v21,v21] h)
def BN (a0:Value) (l3:List Value) (b1:Nat) (N2:List Value→Heap→Prop) (h:Heap) (κ:KQ):Prop :=
 aV False a0 h fun v4 h=>
 fieldAddrB False 2 v4 h fun v5 h=>
 load1 False v5 h fun v6 h=>
 br False v6 h fun v7 h=>
 au False prog .lss 3 false false (slot l3 27) v7 h fun v8 h=>
 ay v8 (
 I9 a0 l3 b1 N2 v4 v5 v6 v7 v8 h κ) (
 aV False a0 h fun v22 h=>
 fieldAddrB False 2 v22 h fun v23 h=>
 load1 False v23 h fun v24 h=>
 br False v24 h fun v25 h=>
 κ (Value.tuple (Array.mk [v25,(.bool false)])) h)
theorem aam (a0 a1:Value) (h:Heap) (κ:KQ):aM prog 77 [a0,a1] h κ = (
 ax False (Value.cells a1).toList 36 false fun o0 => aj False o0 h fun b1 h=>
 b6 [undef,undef,undef,undef,undef,undef,undef,undef,undef,undef,undef,undef,undef,undef,undef,undef,undef,undef,undef,undef,undef,undef,undef,(.int .i64 0),(.bool false),undef,undef,(.int .i64 0)] h fun l3 h N2=>
 BN a0 l3 b1 N2 h κ) := by kernel_rfl
theorem aan (a0 a1:Value) (h:Heap) (κ:KQ):aM prog 78 [a0,a1] h κ = (
 CallW prog 79 [a0,a1] h fun v0 h=>
 au False prog .geq 3 true false v0 (.int .i64 0) h fun v1 h=>
 κ v1 h) := by kernel_rfl
def I_ (a0:Value) (l1:List Value) (a1:Value) (N0:List Value→Heap→Prop) (v2 v3 v4 v5 v6:Value) (h:Heap) (κ:KQ):Prop :=
 aV False a0 h fun v7 h=>
 fieldAddrB False 2 v7 h fun v8 h=>
 load1 False v8 h fun v9 h=>
 aq False 4 v9 (slot l1 26) h fun v10 h=>
 aD False 4 v10 h fun v11 h=>
 CallW prog 118 [v11,a1] h fun v12 h=>
 av False 0 v12 h fun bI h=>
 av False 1 v12 h fun bO h=>
 ax False [(.int .i64 0),(.int .i64 0),(.int .i64 0),(.int .i64 0),(.int .i64 0)] 83 false fun Z8 => aj False Z8 h fun Tq h=>
 aI False 5 (ptrTo Tq) bI h fun v17 h=>
 ay bO (
 κ (slot l1 26) h) (
 au False prog .add 3 true false (slot l1 26) (.int .i64 1) h fun bR h=>
 N0 [(slot l1 26),a0,v2,v3,v4,v5,v6,a0,v7,v8,v9,(slot l1 26),v10,v11,a1,v12,v12,bI,bO,(ptrTo Tq),bO,bO,(slot l1 22),(slot l1 23),(slot l1 26),bR,bR] h)
def BO (a0:Value) (l1:List Value) (a1:Value) (N0:List Value→Heap→Prop) (h:Heap) (κ:KQ):Prop :=
 aV False a0 h fun v2 h=>
 fieldAddrB False 2 v2 h fun v3 h=>
 load1 False v3 h fun v4 h=>
 br False v4 h fun v5 h=>
 au False prog .lss 3 false false (slot l1 26) v5 h fun v6 h=>
 ay v6 (
 I_ a0 l1 a1 N0 v2 v3 v4 v5 v6 h κ) (
 κ (.int .i64 (-1)) h)
theorem aao (a0 a1:Value) (h:Heap) (κ:KQ):aM prog 79 [a0,a1] h κ = (
 b6 [undef,undef,undef,undef,undef,undef,undef,undef,undef,undef,undef,undef,undef,undef,undef,undef,undef,undef,undef,undef,undef,undef,undef,(.int .i64 0),undef,undef,(.int .i64 0)] h fun l1 h N0=>
 BO a0 l1 a1 N0 h κ) := by kernel_rfl
theorem aap (a0 a1:Value) (h:Heap) (κ:KQ):aM prog 80 [a0,a1] h κ = (
 ax False (Value.cells a0).toList 81 false fun o0 => aj False o0 h fun b1 h=>
 ax False [(.int .i64 0),(.int .i64 0),(.slice none 0 0),(.int .i64 0)] 81 false fun o2 => aj False o2 h fun b3 h=>
 aD False 4 (ptrTo b1) h fun v4 h=>
 CallW prog 119 [v4,a1] h fun v5 h=>
 au False prog .lss 3 true false v5 (.int .i64 0) h fun v6 h=>
 ay v6 (
 bC False [] [] [(.int .i64 0),(.int .i64 0),(.slice none 0 0),(.int .i64 0)] fun cs7=>
 aI False 4 (ptrTo b3) (Value.agg (Array.mk cs7)) h fun v8 h=>
 aD False 4 (ptrTo b3) h fun v9 _ => κ (Value.tuple (Array.mk [v9,(.int .i64 5)])) h) (
 aD False 4 (ptrTo b1) h fun v10 h=>
 CallW prog 120 [v10,v5] h fun v11 h=>
 aI False 4 (ptrTo b3) v11 h fun v12 h=>
 aD False 4 (ptrTo b3) h fun bI _ => κ (Value.tuple (Array.mk [bI,(.int .i64 0)])) h)) := by kernel_rfl
theorem aar (a0 a1:Value) (h:Heap) (κ:KQ):aM prog 81 [a0,a1] h κ = (
 CallW prog 121 [a0,a1] h fun v0 h=>
 jv False .not v0 h fun v1 h=>
 ay v1 (
 κ (.int .i64 5) h) (
 aV False a0 h fun v2 h=>
 fieldAddrB False 0 v2 h fun v3 h=>
 load1 False v3 h fun v4 h=>
 aq False 1 v4 a1 h fun v5 h=>
 aI False 1 v5 (.bool false) h fun v6 h=>
 κ (.int .i64 0) h)) := by kernel_rfl
def Ja (a0 a1:Value) (DJ:List Value→Heap→Prop) (v17 bR v19 v20:Value) (h:Heap):Prop :=
 bC False [] [] (aU [(.int .i64 0),(.int .i64 0),(.slice none 0 0),(.int .i64 0)] 0) fun Vc => ax False Vc 81 false fun o21 => aj False o21 h fun b22 h=>
 aV False a0 h fun v24 h=>
 fieldAddrB False 2 v24 h fun v25 h=>
 load1 False v25 h fun v26 h=>
 sliceB False 81 4 v26 none (some a1) none h fun v27 h=>
 bu False 81 4 [(.int .i64 0),(.int .i64 0),(.slice none 0 0),(.int .i64 0)] false (sliceTo 0 0 b22) v27 h fun v28 h=>
 aV False a0 h fun fG h=>
 fieldAddrB False 2 fG h fun v30 h=>
 load1 False v30 h fun v31 h=>
 au False prog .add 3 true false a1 (.int .i64 1) h fun v32 h=>
 sliceB False 81 4 v31 (some v32) none none h fun v33 h=>
 bu False 81 4 [(.int .i64 0),(.int .i64 0),(.slice none 0 0),(.int .i64 0)] false v28 v33 h fun gY h=>
 aV False a0 h fun v35 h=>
 fieldAddrB False 2 v35 h fun iP h=>
 aI False 1 iP gY h fun v37 h=>
 DJ [v17,bR,v19,v20,(sliceTo 0 0 b22),a0,v24,v25,v26,a1,v27,v28,v28,a0,v28,a0,fG,v30,v31,a1,v32,v33,gY,v35,iP] h
def BP (b1:Nat) (a0 a1:Value) (DJ:List Value→Heap→Prop) (h:Heap):Prop :=
 fieldAddrB False 2 (ptrTo b1) h fun v17 h=>
 load1 False v17 h fun bR h=>
 br False bR h fun v19 h=>
 au False prog .eql 3 true false v19 (.int .i64 0) h fun v20 h=>
 ay v20 (
 Ja a0 a1 DJ v17 bR v19 v20 h) (
 DJ [v17,bR,v19,v20,undef,undef,undef,undef,undef,undef,undef,undef,undef,undef,undef,undef,undef,undef,undef,undef,undef,undef,undef,undef,undef] h)
theorem aas (a0 a1 a2:Value) (h:Heap) (κ:KQ):aM prog 82 [a0,a1,a2] h κ = (
 ax False (Value.cells a2).toList 81 false fun o0 => aj False o0 h fun b1 h=>
 aD False 4 (ptrTo b1) h fun v2 h=>
 CallW prog 122 [v2] h fun v3 h=>
 av False 0 v3 h fun v4 h=>
 av False 1 v3 h fun v5 h=>
 aI False 4 (ptrTo b1) v4 h fun v6 h=>
 aH (some a0) h fun v7 h=>
 aH (aV none v7 h fun v _=>some v) h fun v8 h=>
 aH (fieldAddrB none 2 v8 h fun v _=>some v) h fun v9 h=>
 aH (load1 none v9 h fun v _=>some v) h fun v10 h=>
 aH (some a1) h fun v11 h=>
 aH (aD none 4 (ptrTo b1) h fun v _=>some v) h fun v12 h=>
 aH (aq none 4 v10 v11 h fun v _=>some v) h fun bI h=>
 aI False 4 bI v12 h fun bO h=>
 dD (fun DJ=>
 BP b1 a0 a1 DJ h) fun gx h=>
 κ v5 h) := by kernel_rfl
def BQ (Ko:Nat) (v10 v33:Value) (b3:Nat) (h:Heap) (κ:KQ):Prop :=
 fieldAddrB False 2 (ptrTo Ko) h fun v64 h=>
 load1 False v64 h fun mX h=>
 aq False 5 mX v10 h fun v66 h=>
 fieldAddrB False 2 v66 h fun v67 h=>
 aI False 1 v67 v33 h fun sY h=>
 aD False 4 (ptrTo Ko) h fun zo h=>
 aI False 4 (ptrTo b3) zo h fun v70 h=>
 aD False 4 (ptrTo b3) h fun ru _ => κ (Value.tuple (Array.mk [ru,(.bool true),(.int .i64 0)])) h
def BR (Ko:Nat) (v10:Value) (b3:Nat) (h:Heap) (κ:KQ):Prop :=
 fieldAddrB False 3 (ptrTo Ko) h fun v72 h=>
 load1 False v72 h fun zn h=>
 au False prog .add 3 true false zn (.int .i64 1) h fun zp h=>
 fieldAddrB False 3 (ptrTo Ko) h fun v75 h=>
 aI False 1 v75 zp h fun v76 h=>
 fieldAddrB False 2 (ptrTo Ko) h fun v77 h=>
 load1 False v77 h fun v78 h=>
 fieldAddrB False 3 (ptrTo Ko) h fun v79 h=>
 load1 False v79 h fun v80 h=>
 aq False 5 v78 v10 h fun Gt h=>
 fieldAddrB False 4 Gt h fun v82 h=>
 aI False 1 v82 v80 h fun Gu h=>
 aD False 4 (ptrTo Ko) h fun Im h=>
 aI False 4 (ptrTo b3) Im h fun v85 h=>
 aD False 4 (ptrTo b3) h fun PF _ => κ (Value.tuple (Array.mk [PF,(.bool false),(.int .i64 0)])) h
def Jb (b1:Nat) (v10 a2:Value) (b3:Nat) (h:Heap) (κ:KQ):Prop :=
 aD False 4 (ptrTo b1) h fun v23 h=>
 CallW prog 125 [v23] h fun v24 h=>
 ax False [(.int .i64 0),(.int .i64 0),(.slice none 0 0),(.int .i64 0)] 81 false fun o25 => aj False o25 h fun Ko h=>
 aI False 4 (ptrTo Ko) v24 h fun v27 h=>
 fieldAddrB False 2 (ptrTo b1) h fun v28 h=>
 load1 False v28 h fun fG h=>
 aq False 5 fG v10 h fun v30 h=>
 fieldAddrB False 2 v30 h fun v31 h=>
 load1 False v31 h fun v32 h=>
 CallW prog 126 [v32,a2] h fun v33 h=>
 fieldAddrB False 2 (ptrTo Ko) h fun gY h=>
 load1 False gY h fun v35 h=>
 aq False 5 v35 v10 h fun iP h=>
 fieldAddrB False 3 iP h fun v37 h=>
 aI False 1 v37 v33 h fun mu h=>
 fieldAddrB False 2 (ptrTo b1) h fun v39 h=>
 load1 False v39 h fun v40 h=>
 aq False 5 v40 v10 h fun v41 h=>
 fieldAddrB False 2 v41 h fun iD h=>
 load1 False iD h fun gM h=>
 au False prog .eql 37 false false v33 gM h fun v44 h=>
 ag (ah v44 false) (fun ZY=>
 aD False 4 (ptrTo b1) h ZY) h fun v46 h=>
 ag (ah v44 false) (fun Zq=>
 Zq v33 h) h fun jH h=>
 ag (ah v44 false) (fun UW=>
 UW v10 h) h fun v50 h=>
 ag (ah v44 false) (fun Zr=>
 CallW prog 127 [v46,jH,v50] h Zr) h fun nR h=>
 ag (ah v44 false) (fun K53=>
 K53 nR h) h fun v54 h=>
 ag (ah v54 true) (fun K55=>
 aD False 4 (ptrTo b1) h K55) h fun qa h=>
 ag (ah v54 true) (fun K57=>
 CallW prog 128 [qa] h K57) h fun v58 h=>
 ag (ah v54 true) (fun K59=>
 au False prog .lss 3 true false v58 (.int .i64 0) h K59) h fun v60 h=>
 ag (ah v44 false) (fun K61=>
 bf False v54 v60 (.bool false) h K61) h fun sX h=>
 bf False v44 (.bool true) sX h fun oh h=>
 ay oh (
 BQ Ko v10 v33 b3 h κ) (
 BR Ko v10 b3 h κ)
def Jc (b1:Nat) (v10:Value) (b3:Nat) (a2:Value) (h:Heap) (κ:KQ):Prop :=
 fieldAddrB False 2 (ptrTo b1) h fun bN h=>
 load1 False bN h fun v16 h=>
 aq False 5 v16 v10 h fun v17 h=>
 aD False 5 v17 h fun bR h=>
 CallW prog 124 [bR] h fun v19 h=>
 ay v19 (
 bC False [] [] [(.int .i64 0),(.int .i64 0),(.slice none 0 0),(.int .i64 0)] fun afg=>
 aI False 4 (ptrTo b3) (Value.agg (Array.mk afg)) h fun v21 h=>
 aD False 4 (ptrTo b3) h fun v22 _ => κ (Value.tuple (Array.mk [v22,(.bool false),(.int .i64 7)])) h) (
 Jb b1 v10 a2 b3 h κ)
def Jd (b1:Nat) (a1:Value) (b3:Nat) (a2:Value) (h:Heap) (κ:KQ):Prop :=
 aD False 4 (ptrTo b1) h fun v9 h=>
 CallW prog 119 [v9,a1] h fun v10 h=>
 au False prog .lss 3 true false v10 (.int .i64 0) h fun v11 h=>
 ay v11 (
 bC False [] [] [(.int .i64 0),(.int .i64 0),(.slice none 0 0),(.int .i64 0)] fun Nc=>
 aI False 4 (ptrTo b3) (Value.agg (Array.mk Nc)) h fun bI h=>
 aD False 4 (ptrTo b3) h fun bO _ => κ (Value.tuple (Array.mk [bO,(.bool false),(.int .i64 5)])) h) (
 Jc b1 v10 b3 a2 h κ)
theorem aat (a0 a1 a2:Value) (h:Heap) (κ:KQ):aM prog 83 [a0,a1,a2] h κ = (
 ax False (Value.cells a0).toList 81 false fun o0 => aj False o0 h fun b1 h=>
 ax False [(.int .i64 0),(.int .i64 0),(.slice none 0 0),(.int .i64 0)] 81 false fun o2 => aj False o2 h fun b3 h=>
 CallW prog 123 [a2] h fun v4 h=>
 jv False .not v4 h fun v5 h=>
 ay v5 (
 bC False [] [] [(.int .i64 0),(.int .i64 0),(.slice none 0 0),(.int .i64 0)] fun Vd=>
 aI False 4 (ptrTo b3) (Value.agg (Array.mk Vd)) h fun v7 h=>
 aD False 4 (ptrTo b3) h fun v8 _ => κ (Value.tuple (Array.mk [v8,(.bool false),(.int .i64 2)])) h) (
 Jd b1 a1 b3 a2 h κ)) := by kernel_rfl
theorem aau (a0:Value) (h:Heap) (κ:KQ):aM prog 84 [a0] h κ = (
 CallW prog 129 [a0] h fun v0 h=>
 br False v0 h fun v1 h=>
 κ v1 h) := by kernel_rfl
theorem aav (a0:Value) (h:Heap) (κ:KQ):aM prog 85 [a0] h κ = (
 aV False a0 h fun v0 h=>
 fieldAddrB False 0 v0 h fun v1 h=>
 load1 False v1 h fun v2 h=>
 br False v2 h fun v3 h=>
 κ v3 h) := by kernel_rfl
def BS (a0:Value) (l1:List Value) (N0:List Value→Heap→Prop) (v2 v3 v4 v5 v6:Value) (h:Heap) (κ:KQ):Prop :=
 aV False a0 h fun v7 h=>
 fieldAddrB False 0 v7 h fun v8 h=>
 load1 False v8 h fun v9 h=>
 aq False 1 v9 (slot l1 26) h fun v10 h=>
 load1 False v10 h fun v11 h=>
 jv False .not v11 h fun v12 h=>
 ay v12 (
 aV False a0 h fun bI h=>
 fieldAddrB False 0 bI h fun bO h=>
 load1 False bO h fun bN h=>
 aq False 1 bN (slot l1 26) h fun v16 h=>
 aI False 1 v16 (.bool true) h fun v17 h=>
 κ (Value.tuple (Array.mk [(slot l1 26),(.int .i64 0)])) h) (
 au False prog .add 3 true false (slot l1 26) (.int .i64 1) h fun bR h=>
 N0 [(slot l1 26),a0,v2,v3,v4,v5,v6,a0,v7,v8,v9,(slot l1 26),v10,v11,v12,(slot l1 15),(slot l1 16),(slot l1 17),(slot l1 18),(slot l1 19),(slot l1 20),(slot l1 21),(slot l1 22),(slot l1 23),(slot l1 26),bR,bR] h)
def vw (a0:Value) (l1:List Value) (N0:List Value→Heap→Prop) (h:Heap) (κ:KQ):Prop :=
 aV False a0 h fun v2 h=>
 fieldAddrB False 0 v2 h fun v3 h=>
 load1 False v3 h fun v4 h=>
 br False v4 h fun v5 h=>
 au False prog .lss 3 false false (slot l1 26) v5 h fun v6 h=>
 ay v6 (
 BS a0 l1 N0 v2 v3 v4 v5 v6 h κ) (
 κ (Value.tuple (Array.mk [(.int .i64 0),(.int .i64 8)])) h)
theorem aaw (a0:Value) (h:Heap) (κ:KQ):aM prog 86 [a0] h κ = (
 b6 [undef,undef,undef,undef,undef,undef,undef,undef,undef,undef,undef,undef,undef,undef,undef,undef,undef,undef,undef,undef,undef,undef,(.int .i64 0),(.int .i64 0),undef,undef,(.int .i64 0)] h fun l1 h N0=>
 vw a0 l1 N0 h κ) := by kernel_rfl
def BT (DH:Nat) (a1 a2 a3:Value) (b3:Nat) (h:Heap) (κ:KQ):Prop :=
 fieldAddrB False 2 (ptrTo DH) h fun v70 h=>
 load1 False v70 h fun ru h=>
 bC False [(0,1),(1,1),(2,1),(3,1)] [a1,a2,a3,a3] [(.int .i64 0),(.int .i64 0),(.int .i64 0),(.int .i64 0),(.int .i64 0)] fun afh=>
 bC False [(0,5)] [(Value.agg (Array.mk afh))] (aU [(.int .i64 0),(.int .i64 0),(.int .i64 0),(.int .i64 0),(.int .i64 0)] 1) fun afi => ax False afi 83 false fun o73 => aj False o73 h fun b74 h=>
 bu False 83 5 [(.int .i64 0),(.int .i64 0),(.int .i64 0),(.int .i64 0),(.int .i64 0)] false ru (sliceTo 1 1 b74) h fun v76 h=>
 fieldAddrB False 2 (ptrTo DH) h fun v77 h=>
 aI False 1 v77 v76 h fun v78 h=>
 aD False 4 (ptrTo DH) h fun v79 h=>
 aI False 4 (ptrTo b3) v79 h fun v80 h=>
 aD False 4 (ptrTo b3) h fun Gt _ => κ (Value.tuple (Array.mk [Gt,(.bool true),(.int .i64 0)])) h
def BU (DH:Nat) (a1 a2 a3:Value) (b3:Nat) (h:Heap) (κ:KQ):Prop :=
 fieldAddrB False 3 (ptrTo DH) h fun v82 h=>
 load1 False v82 h fun Gu h=>
 au False prog .add 3 true false Gu (.int .i64 1) h fun Im h=>
 fieldAddrB False 3 (ptrTo DH) h fun v85 h=>
 aI False 1 v85 Im h fun PF h=>
 fieldAddrB False 2 (ptrTo DH) h fun v87 h=>
 load1 False v87 h fun Kk h=>
 fieldAddrB False 3 (ptrTo DH) h fun Gw h=>
 load1 False Gw h fun Tn h=>
 bC False [(0,1),(1,1),(3,1),(4,1)] [a1,a2,a3,Tn] [(.int .i64 0),(.int .i64 0),(.int .i64 0),(.int .i64 0),(.int .i64 0)] fun afj=>
 bC False [(0,5)] [(Value.agg (Array.mk afj))] (aU [(.int .i64 0),(.int .i64 0),(.int .i64 0),(.int .i64 0),(.int .i64 0)] 1) fun U6 => ax False U6 83 false fun o92 => aj False o92 h fun b93 h=>
 bu False 83 5 [(.int .i64 0),(.int .i64 0),(.int .i64 0),(.int .i64 0),(.int .i64 0)] false Kk (sliceTo 1 1 b93) h fun MZ h=>
 fieldAddrB False 2 (ptrTo DH) h fun ZV h=>
 aI False 1 ZV MZ h fun M0 h=>
 aD False 4 (ptrTo DH) h fun v98 h=>
 aI False 4 (ptrTo b3) v98 h fun M1 h=>
 aD False 4 (ptrTo b3) h fun Gx _ => κ (Value.tuple (Array.mk [Gx,(.bool false),(.int .i64 0)])) h
def Je (b1:Nat) (gx:List Value) (a1 a2:Value) (b3:Nat) (DJ:List Value→Heap→Prop) (v17 bR v19 v20:Value) (h:Heap) (κ:KQ):Prop :=
 fieldAddrB False 2 (ptrTo b1) h fun v21 h=>
 load1 False v21 h fun v22 h=>
 aq False 5 v22 (slot gx 28) h fun v23 h=>
 fieldAddrB False 0 v23 h fun v24 h=>
 load1 False v24 h fun v25 h=>
 au False prog .eql 3 false false v25 a1 h fun v26 h=>
 ag (ah v26 false) (fun Gy=>
 fieldAddrB False 2 (ptrTo b1) h Gy) h fun v28 h=>
 ag (ah v26 false) (fun Gz=>
 load1 False v28 h Gz) h fun v30 h=>
 ag (ah v26 false) (fun Gv=>
 Gv (slot gx 28) h) h fun v32 h=>
 ag (ah v26 false) (fun Kl=>
 aq False 5 v30 v32 h Kl) h fun gY h=>
 ag (ah v26 false) (fun QM=>
 fieldAddrB False 1 gY h QM) h fun iP h=>
 ag (ah v26 false) (fun QN=>
 load1 False iP h QN) h fun mu h=>
 ag (ah v26 false) (fun U7=>
 U7 a2 h) h fun v40 h=>
 ag (ah v26 false) (fun K41=>
 au False prog .eql 3 false false mu v40 h K41) h fun iD h=>
 bf False v26 (.bool true) iD h fun gM h=>
 ay gM (
 bC False [] [] [(.int .i64 0),(.int .i64 0),(.slice none 0 0),(.int .i64 0)] fun afl=>
 aI False 4 (ptrTo b3) (Value.agg (Array.mk afl)) h fun v45 h=>
 aD False 4 (ptrTo b3) h fun v46 _ => κ (Value.tuple (Array.mk [v46,(.bool false),(.int .i64 4)])) h) (
 au False prog .add 3 true false (slot gx 28) (.int .i64 1) h fun jQ h=>
 DJ [(slot gx 28),v17,bR,v19,v20,v21,v22,(slot gx 28),v23,v24,v25,a1,v26,v26,v28,v30,v32,gY,iP,mu,v40,iD,gM,(slot gx 23),(slot gx 24),(slot gx 25),(slot gx 28),jQ,jQ] h)
def Jf (b1:Nat) (a3 a1 a2:Value) (b3:Nat) (h:Heap) (κ:KQ):Prop :=
 aD False 4 (ptrTo b1) h fun jH h=>
 CallW prog 125 [jH] h fun v49 h=>
 ax False [(.int .i64 0),(.int .i64 0),(.slice none 0 0),(.int .i64 0)] 81 false fun o50 => aj False o50 h fun DH h=>
 aI False 4 (ptrTo DH) v49 h fun nR h=>
 aD False 4 (ptrTo b1) h fun v53 h=>
 CallW prog 128 [v53] h fun v54 h=>
 au False prog .lss 3 true false v54 (.int .i64 0) h fun v55 h=>
 ag (ah v55 true) (fun K56=>
 aD False 4 (ptrTo b1) h K56) h fun oR h=>
 ag (ah v55 true) (fun K58=>
 CallW prog 130 [oR] h K58) h fun v59 h=>
 ag (ah v55 true) (fun K60=>
 au False prog .lss 3 true false v59 (.int .i64 0) h K60) h fun qp h=>
 bf False v55 qp (.bool false) h fun sX h=>
 ag (ah sX true) (fun K63=>
 aD False 4 (ptrTo b1) h K63) h fun v64 h=>
 ag (ah sX true) (fun K65=>
 K65 a3 h) h fun v66 h=>
 ag (ah sX true) (fun K67=>
 CallW prog 127 [v64,v66,(.int .i64 (-1))] h K67) h fun sY h=>
 bf False sX sY (.bool false) h fun zo h=>
 ay zo (
 BT DH a1 a2 a3 b3 h κ) (
 BU DH a1 a2 a3 b3 h κ)
def BV (b1:Nat) (gx:List Value) (a1 a2:Value) (b3:Nat) (DJ:List Value→Heap→Prop) (a3:Value) (h:Heap) (κ:KQ):Prop :=
 fieldAddrB False 2 (ptrTo b1) h fun v17 h=>
 load1 False v17 h fun bR h=>
 br False bR h fun v19 h=>
 au False prog .lss 3 false false (slot gx 28) v19 h fun v20 h=>
 ay v20 (
 Je b1 gx a1 a2 b3 DJ v17 bR v19 v20 h κ) (
 Jf b1 a3 a1 a2 b3 h κ)
theorem aaA (a0 a1 a2 a3:Value) (h:Heap) (κ:KQ):aM prog 87 [a0,a1,a2,a3] h κ = (
 ax False (Value.cells a0).toList 81 false fun o0 => aj False o0 h fun b1 h=>
 ax False [(.int .i64 0),(.int .i64 0),(.slice none 0 0),(.int .i64 0)] 81 false fun o2 => aj False o2 h fun b3 h=>
 au False prog .lss 3 true false a1 (.int .i64 0) h fun v4 h=>
 ag (ah v4 false) (fun K5=>
 K5 a3 h) h fun v6 h=>
 ag (ah v4 false) (fun K7=>
 CallW prog 123 [v6] h K7) h fun v8 h=>
 ag (ah v4 false) (fun K9=>
 jv False .not v8 h K9) h fun v10 h=>
 bf False v4 (.bool true) v10 h fun v11 h=>
 ay v11 (
 bC False [] [] [(.int .i64 0),(.int .i64 0),(.slice none 0 0),(.int .i64 0)] fun Nc=>
 aI False 4 (ptrTo b3) (Value.agg (Array.mk Nc)) h fun bI h=>
 aD False 4 (ptrTo b3) h fun bO _ => κ (Value.tuple (Array.mk [bO,(.bool false),(.int .i64 2)])) h) (
 b6 [undef,undef,undef,undef,undef,undef,undef,undef,undef,undef,undef,undef,undef,undef,undef,undef,undef,undef,undef,undef,undef,undef,undef,undef,(.bool false),(.int .i64 0),undef,undef,(.int .i64 0)] h fun gx h DJ=>
 BV b1 gx a1 a2 b3 DJ a3 h κ)) := by kernel_rfl
theorem aaB (a0 a1:Value) (h:Heap) (κ:KQ):aM prog 89 [a0,a1] h κ = (
 ax False (Value.cells a0).toList 60 false fun o0 => aj False o0 h fun b1 h=>
 ax False (Value.cells a1).toList 60 false fun o2 => aj False o2 h fun b3 h=>
 aH (fieldAddrB none 0 (ptrTo b1) h fun v _=>some v) h fun v4 h=>
 aH (load1 none v4 h fun v _=>some v) h fun v5 h=>
 aH (fieldAddrB none 0 (ptrTo b3) h fun v _=>some v) h fun v6 h=>
 aH (load1 none v6 h fun v _=>some v) h fun v7 h=>
 aH (fieldAddrB none 1 (ptrTo b1) h fun v _=>some v) h fun v8 h=>
 aH (aD none 2 v8 h fun v _=>some v) h fun v9 h=>
 aH (fieldAddrB none 1 (ptrTo b3) h fun v _=>some v) h fun v10 h=>
 aH (aD none 2 v10 h fun v _=>some v) h fun v11 h=>
 CallW prog 91 [v5,v7] h fun v12 h=>
 dM ((gz (fieldAddrB none 1 (ptrTo b1) h fun v _=>some v) v8) && ((gz (aD none 2 v8 h fun v _=>some v) v9) && ((gz (fieldAddrB none 1 (ptrTo b3) h fun v _=>some v) v10) && ((gz (aD none 2 v10 h fun v _=>some v) v11) && true)))) (CallW prog 92 [v9,v11] h fun bI h=>
 J7 (bC none [(0,1),(1,1)] [v12,bI] (aU [(.int .i64 0)] 2) fun cs => ax none cs 3 false fun o => some (o,sliceTo 2 2)) h fun bO h=>
 CallW prog 90 [bO] h fun bN h=>
 κ bN h)) := by kernel_rfl
def sn (a0:Value) (l2:List Value) (N1:List Value→Heap→Prop) (v3:Value) (h:Heap) (κ:KQ):Prop :=
 aq False 1 a0 (slot l2 10) h fun v4 h=>
 load1 False v4 h fun v5 h=>
 au False prog .neq 3 false false v5 (.int .i64 0) h fun v6 h=>
 ay v6 (
 κ v5 h) (
 au False prog .add 3 true false (slot l2 10) (.int .i64 1) h fun v7 h=>
 N1 [v3,v4,v5,v5,v5,(.int .i64 0),v6,(slot l2 7),(slot l2 8),v7,v7] h)
theorem aaC (a0:Value) (h:Heap) (κ:KQ):aM prog 90 [a0] h κ = (
 br False a0 h fun v0 h=>
 b6 [undef,undef,undef,undef,undef,undef,undef,undef,(.int .i64 0),undef,(.int .i64 0)] h fun l2 h N1=>
 au False prog .lss 3 false false (slot l2 10) v0 h fun v3 h=>
 ay v3 (
 sn a0 l2 N1 v3 h κ) (
 κ (.int .i64 0) h)) := by kernel_rfl
def vz (a0 a1:Value) (h:Heap) (κ:KQ):Prop :=
 au False prog .lss 3 false false a0 a1 h fun v2 h=>
 ay v2 (
 κ (.int .i64 (-1)) h) (
 au False prog .gtr 3 false false a0 a1 h fun v3 h=>
 ay v3 (
 κ (.int .i64 1) h) (
 κ (.int .i64 0) h))
theorem aaD (a0 a1:Value) (h:Heap) (κ:KQ):aM prog 91 [a0,a1] h κ = (
 CallW prog 133 [a0] h fun v0 h=>
 CallW prog 133 [a1] h fun v1 h=>
 ay v0 (
 ay v1 (
 κ (.int .i64 0) h) (
 κ (.int .i64 (-1)) h)) (
 ay v1 (
 κ (.int .i64 1) h) (
 vz a0 a1 h κ))) := by kernel_rfl
theorem aaE (a0 a1:Value) (h:Heap) (κ:KQ):aM prog 92 [a0,a1] h κ = (
 ax False (Value.cells a0).toList 36 false fun o0 => aj False o0 h fun b1 h=>
 ax False (Value.cells a1).toList 36 false fun o2 => aj False o2 h fun b3 h=>
 aH (fieldAddrB none 0 (ptrTo b1) h fun v _=>some v) h fun v4 h=>
 aH (load1 none v4 h fun v _=>some v) h fun v5 h=>
 aH (fieldAddrB none 0 (ptrTo b3) h fun v _=>some v) h fun v6 h=>
 aH (load1 none v6 h fun v _=>some v) h fun v7 h=>
 aH (fieldAddrB none 1 (ptrTo b1) h fun v _=>some v) h fun v8 h=>
 aH (load1 none v8 h fun v _=>some v) h fun v9 h=>
 aH (fieldAddrB none 1 (ptrTo b3) h fun v _=>some v) h fun v10 h=>
 aH (load1 none v10 h fun v _=>some v) h fun v11 h=>
 CallW prog 91 [v5,v7] h fun v12 h=>
 dM ((gz (fieldAddrB none 1 (ptrTo b1) h fun v _=>some v) v8) && ((gz (load1 none v8 h fun v _=>some v) v9) && ((gz (fieldAddrB none 1 (ptrTo b3) h fun v _=>some v) v10) && ((gz (load1 none v10 h fun v _=>some v) v11) && true)))) (CallW prog 91 [v9,v11] h fun bI h=>
 J7 (bC none [(0,1),(1,1)] [v12,bI] (aU [(.int .i64 0)] 2) fun cs => ax none cs 3 false fun o => some (o,sliceTo 2 2)) h fun bO h=>
 CallW prog 90 [bO] h fun bN h=>
 κ bN h)) := by kernel_rfl
def Jg (a0:Value) (l1:List Value) (N0:List Value→Heap→Prop) (v2 v3 v4 v5 v6:Value) (h:Heap):Prop :=
 aV False a0 h fun v7 h=>
 fieldAddrB False 2 v7 h fun v8 h=>
 load1 False v8 h fun v9 h=>
 aq False 4 v9 (slot l1 27) h fun v10 h=>
 aD False 4 v10 h fun v11 h=>
 ax False [(.int .i64 0),(.int .i64 0),(.slice none 0 0),(.int .i64 0)] 81 false fun U0 => aj False U0 h fun IA h=>
 aI False 4 (ptrTo IA) v11 h fun bO h=>
 bC False [] [] (aU [(.int .i64 0),(.int .i64 0),(.int .i64 0),(.int .i64 0),(.int .i64 0)] 0) fun GD => ax False GD 83 false fun Z8 => aj False Z8 h fun Tq h=>
 fieldAddrB False 2 (ptrTo IA) h fun bR h=>
 load1 False bR h fun v19 h=>
 bu False 83 5 [(.int .i64 0),(.int .i64 0),(.int .i64 0),(.int .i64 0),(.int .i64 0)] false (sliceTo 0 0 Tq) v19 h fun v20 h=>
 fieldAddrB False 2 (ptrTo IA) h fun v21 h=>
 aI False 1 v21 v20 h fun v22 h=>
 aD False 4 (ptrTo IA) h fun v23 h=>
 bC False [(0,4)] [v23] (aU [(.int .i64 0),(.int .i64 0),(.slice none 0 0),(.int .i64 0)] 1) fun Ve => ax False Ve 81 false fun o24 => aj False o24 h fun b25 h=>
 bu False 81 4 [(.int .i64 0),(.int .i64 0),(.slice none 0 0),(.int .i64 0)] false (slot l1 24) (sliceTo 1 1 b25) h fun v27 h=>
 au False prog .add 3 true false (slot l1 27) (.int .i64 1) h fun v28 h=>
 N0 [(slot l1 27),a0,v2,v3,v4,v5,v6,a0,v7,v8,v9,(slot l1 27),v10,v11,(ptrTo IA),(sliceTo 0 0 Tq),bR,v19,v20,v21,(slot l1 24),v23,(sliceTo 1 1 b25),v27,v27,(slot l1 27),v28,v28] h
def BW (a0:Value) (l1:List Value) (N0:List Value→Heap→Prop) (h:Heap) (κ:KQ):Prop :=
 aV False a0 h fun v2 h=>
 fieldAddrB False 2 v2 h fun v3 h=>
 load1 False v3 h fun v4 h=>
 br False v4 h fun v5 h=>
 au False prog .lss 3 false false (slot l1 27) v5 h fun v6 h=>
 ay v6 (
 Jg a0 l1 N0 v2 v3 v4 v5 v6 h) (
 κ (slot l1 24) h)
theorem aaF (a0:Value) (h:Heap) (κ:KQ):aM prog 93 [a0] h κ = (
 b6 [undef,undef,undef,undef,undef,undef,undef,undef,undef,undef,undef,undef,undef,undef,undef,undef,undef,undef,undef,undef,undef,undef,undef,undef,(.slice none 0 0),undef,undef,(.int .i64 0)] h fun l1 h N0=>
 BW a0 l1 N0 h κ) := by kernel_rfl
theorem aaG (a0 a1:Value) (h:Heap) (κ:KQ):aM prog 94 [a0,a1] h κ = (
 ax False (Value.cells a0).toList 36 false fun o0 => aj False o0 h fun b1 h=>
 ax False (Value.cells a1).toList 36 false fun o2 => aj False o2 h fun b3 h=>
 fieldAddrB False 0 (ptrTo b1) h fun v4 h=>
 load1 False v4 h fun v5 h=>
 fieldAddrB False 0 (ptrTo b3) h fun v6 h=>
 load1 False v6 h fun v7 h=>
 au False prog .lss 3 false false v5 v7 h fun v8 h=>
 ag (ah v8 false) (fun K9=>
 fieldAddrB False 0 (ptrTo b1) h K9) h fun v10 h=>
 ag (ah v8 false) (fun K11=>
 load1 False v10 h K11) h fun v12 h=>
 ag (ah v8 false) (fun Vf=>
 fieldAddrB False 0 (ptrTo b3) h Vf) h fun bO h=>
 ag (ah v8 false) (fun Vb=>
 load1 False bO h Vb) h fun v16 h=>
 ag (ah v8 false) (fun M8=>
 au False prog .eql 3 false false v12 v16 h M8) h fun bR h=>
 ag (ah v8 false) (fun Bt=>
 Bt bR h) h fun v20 h=>
 ag (ah v20 true) (fun DD=>
 fieldAddrB False 1 (ptrTo b1) h DD) h fun v22 h=>
 ag (ah v20 true) (fun DE=>
 load1 False v22 h DE) h fun v24 h=>
 ag (ah v20 true) (fun Nb=>
 fieldAddrB False 1 (ptrTo b3) h Nb) h fun v26 h=>
 ag (ah v20 true) (fun Gy=>
 load1 False v26 h Gy) h fun v28 h=>
 ag (ah v20 true) (fun Gz=>
 au False prog .lss 3 false false v24 v28 h Gz) h fun v30 h=>
 ag (ah v8 false) (fun Gv=>
 bf False v20 v30 (.bool false) h Gv) h fun v32 h=>
 bf False v8 (.bool true) v32 h fun v33 h=>
 ay v33 (
 κ (.int .i64 (-1)) h) (
 aD False 2 (ptrTo b1) h fun gY h=>
 aD False 2 (ptrTo b3) h fun v35 h=>
 au False prog .eql 36 false false gY v35 h fun iP h=>
 ay iP (
 κ (.int .i64 0) h) (
 κ (.int .i64 1) h))) := by kernel_rfl
def BX (b1:Nat) (l3:List Value) (a1:Value) (N2:List Value→Heap→Prop) (v4 v5 v6 v7:Value) (h:Heap) (κ:KQ):Prop :=
 fieldAddrB False 2 (ptrTo b1) h fun v8 h=>
 load1 False v8 h fun v9 h=>
 aq False 5 v9 (slot l3 22) h fun v10 h=>
 fieldAddrB False 1 v10 h fun v11 h=>
 load1 False v11 h fun v12 h=>
 au False prog .eql 3 false false v12 a1 h fun bI h=>
 ay bI (
 fieldAddrB False 2 (ptrTo b1) h fun bO h=>
 load1 False bO h fun bN h=>
 aq False 5 bN (slot l3 22) h fun v16 h=>
 fieldAddrB False 2 v16 h fun v17 h=>
 load1 False v17 h fun bR h=>
 κ bR h) (
 au False prog .add 3 true false (slot l3 22) (.int .i64 1) h fun v19 h=>
 N2 [(slot l3 22),v4,v5,v6,v7,v8,v9,(slot l3 22),v10,v11,v12,a1,bI,(slot l3 13),(slot l3 14),(slot l3 15),(slot l3 16),(slot l3 17),(slot l3 18),(slot l3 19),(slot l3 22),v19,v19] h)
def vA (b1:Nat) (l3:List Value) (a1:Value) (N2:List Value→Heap→Prop) (h:Heap) (κ:KQ):Prop :=
 fieldAddrB False 2 (ptrTo b1) h fun v4 h=>
 load1 False v4 h fun v5 h=>
 br False v5 h fun v6 h=>
 au False prog .lss 3 false false (slot l3 22) v6 h fun v7 h=>
 ay v7 (
 BX b1 l3 a1 N2 v4 v5 v6 v7 h κ) (
 κ (.int .i64 0) h)
theorem aaH (a0 a1:Value) (h:Heap) (κ:KQ):aM prog 95 [a0,a1] h κ = (
 ax False (Value.cells a0).toList 81 false fun o0 => aj False o0 h fun b1 h=>
 b6 [undef,undef,undef,undef,undef,undef,undef,undef,undef,undef,undef,undef,undef,undef,undef,undef,undef,undef,undef,(.int .i64 0),undef,undef,(.int .i64 0)] h fun l3 h N2=>
 vA b1 l3 a1 N2 h κ) := by kernel_rfl
theorem aaI (h:Heap) (κ:KQ):aM prog 96 [] h κ = (
 ax False [(.int .i64 0),(.int .i64 0)] 36 false fun o0 => aj False o0 h fun b1 h=>
 bC False [(0,1),(1,1)] [(.int .i64 (-1)),(.int .i64 (-1))] [(.int .i64 0),(.int .i64 0)] fun QU=>
 aI False 2 (ptrTo b1) (Value.agg (Array.mk QU)) h fun v3 h=>
 aD False 2 (ptrTo b1) h fun v4 _ => κ v4 h) := by kernel_rfl
theorem aaJ (a0 a1 a2:Value) (h:Heap) (κ:KQ):aM prog 99 [a0,a1,a2] h κ = (
 CallW prog 136 [a0,a1] h fun v0 h=>
 au False prog .eql 26 true false v0 (.int .i64 0) h fun v1 h=>
 ag (ah v1 true) (fun K2=>
 K2 a0 h) h fun v3 h=>
 ag (ah v1 true) (fun K4=>
 aV False v3 h K4) h fun v5 h=>
 ag (ah v1 true) (fun K6=>
 fieldAddrB False 0 v5 h K6) h fun v7 h=>
 ag (ah v1 true) (fun K8=>
 load1 False v7 h K8) h fun v9 h=>
 ag (ah v1 true) (fun oS=>
 oS a1 h) h fun v11 h=>
 ag (ah v1 true) (fun mN=>
 aq False 1 v9 v11 h mN) h fun bI h=>
 ag (ah v1 true) (fun ry=>
 load1 False bI h ry) h fun bN h=>
 ag (ah v1 true) (fun uS=>
 uS a2 h) h fun v17 h=>
 ag (ah v1 true) (fun Bx=>
 au False prog .and 3 false false bN v17 h Bx) h fun v19 h=>
 ag (ah v1 true) (fun DI=>
 au False prog .neq 3 true false v19 (.int .i64 0) h DI) h fun v21 h=>
 bf False v1 v21 (.bool false) h fun v22 h=>
 κ v22 h) := by kernel_rfl
def DK (a1 a0 a2:Value) (h:Heap) (κ:KQ):Prop :=
 au False prog .lss 3 true false a1 (.int .i64 0) h fun v1 h=>
 ag (ah v1 false) (fun K2=>
 K2 a1 h) h fun v3 h=>
 ag (ah v1 false) (fun K4=>
 K4 a0 h) h fun v5 h=>
 ag (ah v1 false) (fun K6=>
 aV False v5 h K6) h fun v7 h=>
 ag (ah v1 false) (fun K8=>
 fieldAddrB False 0 v7 h K8) h fun v9 h=>
 ag (ah v1 false) (fun oS=>
 load1 False v9 h oS) h fun v11 h=>
 ag (ah v1 false) (fun mN=>
 br False v11 h mN) h fun bI h=>
 ag (ah v1 false) (fun ry=>
 au False prog .geq 3 false false v3 bI h ry) h fun bN h=>
 bf False v1 (.bool true) bN h fun v16 h=>
 ag (ah v16 false) (fun M8=>
 M8 a2 h) h fun bR h=>
 ag (ah v16 false) (fun Bt=>
 au False prog .lss 3 true false bR (.int .i64 0) h Bt) h fun v20 h=>
 bf False v16 (.bool true) v20 h fun v21 h=>
 ag (ah v21 false) (fun K22=>
 K22 a2 h) h fun v23 h=>
 ag (ah v21 false) (fun DC=>
 au False prog .geq 3 true false v23 (.int .i64 8) h DC) h fun v25 h=>
 bf False v21 (.bool true) v25 h fun v26 h=>
 ay v26 (
 κ (.int .i64 2) h) (
 κ (.int .i64 0) h)
theorem Vg (a0 a1 a2:Value) (h:Heap) (κ:KQ):aM prog 100 [a0,a1,a2] h κ = (
 au False prog .eql 101 true false a0 (.pointer none) h fun v0 h=>
 ay v0 (
 κ (.int .i64 1) h) (
 DK a1 a0 a2 h κ)) := by kernel_rfl
def DL (v1:Value) (l4:List Value) (a0:Value) (N3:List Value→Heap→Prop) (v5:Value) (h:Heap):Prop :=
 aq False 2 v1 (slot l4 23) h fun v6 h=>
 aD False 2 v6 h fun v7 h=>
 ax False [(.int .i64 0),(.int .i64 0)] 36 false fun o8 => aj False o8 h fun b9 h=>
 aI False 2 (ptrTo b9) v7 h fun v10 h=>
 aH (some a0) h fun v11 h=>
 aH (aV none v11 h fun v _=>some v) h fun v12 h=>
 aH (fieldAddrB none 2 v12 h fun v _=>some v) h fun bI h=>
 aH (load1 none bI h fun v _=>some v) h fun bO h=>
 aH (aD none 2 (ptrTo b9) h fun v _=>some v) h fun bN h=>
 aH (dG none prog 36 (.pointer none) false bO bN h fun v _=>some v) h fun v16 h=>
 aH (aV none v16 h fun v _=>some v) h fun v17 h=>
 aH (aD none 4 v17 h fun v _=>some v) h fun bR h=>
 J7 (ax none [(.int .i64 0),(.int .i64 0),(.slice none 0 0),(.int .i64 0)] 81 false fun o => some (o,ptrTo)) h fun v19 h=>
 aI False 4 v19 bR h fun v20 h=>
 fieldAddrB False 2 v19 h fun v21 h=>
 load1 False v21 h fun v22 h=>
 CallW prog 139 [v22] h fun v23 h=>
 fieldAddrB False 2 v19 h fun v24 h=>
 aI False 1 v24 v23 h fun v25 h=>
 aD False 4 v19 h fun v26 h=>
 bC False [(0,4)] [v26] (aU [(.int .i64 0),(.int .i64 0),(.slice none 0 0),(.int .i64 0)] 1) fun afm => ax False afm 81 false fun o27 => aj False o27 h fun b28 h=>
 bu False 81 4 [(.int .i64 0),(.int .i64 0),(.slice none 0 0),(.int .i64 0)] false (slot l4 21) (sliceTo 1 1 b28) h fun v30 h=>
 au False prog .add 3 true false (slot l4 23) (.int .i64 1) h fun v31 h=>
 N3 [v5,v6,v7,(ptrTo b9),v11,v12,bI,bO,bN,v16,v17,bR,v19,v21,v22,v23,v24,(slot l4 21),v26,(sliceTo 1 1 b28),v30,v30,v31,v31] h
def DM (a0:Value) (h:Heap) (κ:KQ):Prop :=
 CallW prog 138 [a0] h fun v1 h=>
 br False v1 h fun v2 h=>
 b6 [undef,undef,undef,undef,undef,undef,undef,undef,undef,undef,undef,undef,undef,undef,undef,undef,undef,undef,undef,undef,undef,(.slice none 0 0),undef,(.int .i64 0)] h fun l4 h N3=>
 au False prog .lss 3 false false (slot l4 23) v2 h fun v5 h=>
 ay v5 (
 DL v1 l4 a0 N3 v5 h) (
 κ (slot l4 21) h)
theorem Vh (a0:Value) (h:Heap) (κ:KQ):aM prog 103 [a0] h κ = (
 au False prog .eql 182 true false a0 (.pointer none) h fun v0 h=>
 ay v0 (
 κ (.slice none 0 0) h) (
 DM a0 h κ)) := by kernel_rfl
def wW (l13:List Value) (a0:Value) (Iz:Nat) (Tt:List Value→Heap→Prop) (h:Heap) (κ:KQ):Prop :=
 au False prog .lss 3 false false (slot l13 11) a0 h fun bO h=>
 ay bO (
 aV False (ptrTo Iz) h fun bN h=>
 fieldAddrB False 0 bN h fun v16 h=>
 CallW prog 146 [(Value.iface 240 v16),(Value.iface 3 (slot l13 11))] h fun v17 h=>
 au False prog .add 3 true false (slot l13 11) (.int .i64 1) h fun bR h=>
 Tt [bO,(slot l13 11),(slot l13 11),(ptrTo Iz),bN,v16,(Value.iface 240 v16),(slot l13 11),(Value.iface 3 (slot l13 11)),v17,bR,bR] h) (
 κ (Value.tuple (Array.mk [(ptrTo Iz),(.int .i64 0)])) h)
theorem Nd (a0:Value) (h:Heap) (κ:KQ):aM prog 108 [a0] h κ = (
 au False prog .lss 3 true false a0 (.int .i64 0) h fun v0 h=>
 ag (ah v0 false) (fun K1=>
 K1 a0 h) h fun v2 h=>
 ag (ah v0 false) (fun K3=>
 au False prog .gtr 3 true false v2 (.int .i64 128) h K3) h fun v4 h=>
 bf False v0 (.bool true) v4 h fun v5 h=>
 ay v5 (
 κ (Value.tuple (Array.mk [(.pointer none),(.int .i64 2)])) h) (
 MX False a0 a0 [(.bool false)] 4 h fun v8 h=>
 bC False [(1,1)] [v8] [(.slice none 0 0),(.slice none 0 0)] fun UY=>
 ax False (Value.cells (Value.agg (Array.mk UY))).toList 225 false fun QW => aj False QW h fun Iz h=>
 b6 [undef,undef,undef,undef,undef,undef,undef,undef,undef,undef,undef,(.int .i64 0)] h fun l13 h Tt=>
 wW l13 a0 Iz Tt h κ)) := by kernel_rfl
theorem Nf (a0 a1:Value) (h:Heap) (κ:KQ):aM prog 109 [a0,a1] h κ = (
 au False prog .lss 3 true false a0 (.int .i64 1) h fun v0 h=>
 ag (ah v0 false) (fun K1=>
 K1 a0 h) h fun v2 h=>
 ag (ah v0 false) (fun K3=>
 au False prog .gtr 3 true false v2 (.int .i64 64) h K3) h fun v4 h=>
 bf False v0 (.bool true) v4 h fun v5 h=>
 ag (ah v5 false) (fun K6=>
 K6 a1 h) h fun v7 h=>
 ag (ah v5 false) (fun K8=>
 au False prog .eql 144 true false v7 (.pointer none) h K8) h fun v9 h=>
 bf False v5 (.bool true) v9 h fun v10 h=>
 ay v10 (
 κ (Value.tuple (Array.mk [(.pointer none),(.int .i64 2)])) h) (
 aj False (.map [] 0) h fun vl h=>
 bC False [(0,1),(1,1),(2,1)] [a0,a1,(iQ vl)] [(.int .i64 0),(.pointer none),(Value.map none)] fun afn=>
 ax False (Value.cells (Value.agg (Array.mk afn))).toList 220 false fun Vi => aj False Vi h fun Jh h=>
 κ (Value.tuple (Array.mk [(ptrTo Jh),(.int .i64 0)])) h)) := by kernel_rfl
def wX (a0:Value) (l1:List Value) (N0:List Value→Heap→Prop) (h:Heap) (κ:KQ):Prop :=
 om False a0 h fun v2 h=>
 au False prog .lss 3 false false (slot l1 14) v2 h fun v3 h=>
 ay v3 (
 qR False a0 (slot l1 14) h fun v4 h=>
 jb False .u32 v4 h fun v5 h=>
 au False prog .xor 142 false false (slot l1 11) v5 h fun v6 h=>
 au False prog .mul 142 true false v6 (Value.int .u32 (16777619)) h fun v7 h=>
 au False prog .add 3 true false (slot l1 14) (.int .i64 1) h fun v8 h=>
 N0 [(slot l1 14),a0,v2,v3,(slot l1 11),a0,(slot l1 14),v4,v5,v6,v7,v7,(slot l1 14),v8,v8] h) (
 κ (slot l1 11) h)
theorem Vj (a0:Value) (h:Heap) (κ:KQ):aM prog 110 [a0] h κ = (
 b6 [undef,undef,undef,undef,undef,undef,undef,undef,undef,undef,undef,(Value.int .u32 (2166136261)),undef,undef,(.int .i64 0)] h fun l1 h N0=>
 wX a0 l1 N0 h κ) := by kernel_rfl
def DN (b1:Nat) (h:Heap) (κ:KQ):Prop :=
 aH (fieldAddrB none 0 (ptrTo b1) h fun v _=>some v) h fun v11 h=>
 aH (load1 none v11 h fun v _=>some v) h fun v12 h=>
 aH (fieldAddrB none 1 (ptrTo b1) h fun v _=>some v) h fun bI h=>
 aH (load1 none bI h fun v _=>some v) h fun bO h=>
 CallW prog 147 [v12] h fun bN h=>
 dM ((gz (fieldAddrB none 1 (ptrTo b1) h fun v _=>some v) bI) && ((gz (load1 none bI h fun v _=>some v) bO) && true)) (aH (au none prog .add 9 true false (Value.string (ByteArray.mk (Array.mk [116]))) bN h fun v _=>some v) h fun v16 h=>
 aH (au none prog .add 9 true false v16 (Value.string (ByteArray.mk (Array.mk [46,114]))) h fun v _=>some v) h fun v17 h=>
 CallW prog 147 [bO] h fun bR h=>
 dM ((gz (au none prog .add 9 true false (Value.string (ByteArray.mk (Array.mk [116]))) bN h fun v _=>some v) v16) && ((gz (au none prog .add 9 true false v16 (Value.string (ByteArray.mk (Array.mk [46,114]))) h fun v _=>some v) v17) && true)) (aH (au none prog .add 9 false false v17 bR h fun v _=>some v) h fun v19 h=>
 κ v19 h))
def wY (v3:Value) (b1:Nat) (h:Heap) (κ:KQ):Prop :=
 au False prog .eql 3 true false v3 (.int .i64 1) h fun v5 h=>
 ay v5 (
 fieldAddrB False 0 (ptrTo b1) h fun v6 h=>
 load1 False v6 h fun v7 h=>
 CallW prog 147 [v7] h fun v8 h=>
 au False prog .add 9 true false (Value.string (ByteArray.mk (Array.mk [116]))) v8 h fun v9 h=>
 κ v9 h) (
 au False prog .eql 3 true false v3 (.int .i64 2) h fun v10 h=>
 ay v10 (
 DN b1 h κ) (
 κ (Value.string (ByteArray.mk (Array.mk [63]))) h))
theorem Vk (a0:Value) (h:Heap) (κ:KQ):aM prog 111 [a0] h κ = (
 ax False (Value.cells a0).toList 36 false fun o0 => aj False o0 h fun b1 h=>
 aD False 2 (ptrTo b1) h fun v2 h=>
 CallW prog 57 [v2] h fun v3 h=>
 au False prog .eql 3 true false v3 (.int .i64 0) h fun v4 h=>
 ay v4 (
 κ (Value.string (ByteArray.mk (Array.mk [100,98]))) h) (
 wY v3 b1 h κ)) := by kernel_rfl
def wZ (b1:Nat) (h:Heap) (κ:KQ):Prop :=
 fieldAddrB False 0 (ptrTo b1) h fun bN h=>
 load1 False bN h fun v16 h=>
 CallW prog 149 [v16] h fun v17 h=>
 ag (ah v17 true) (fun Bx=>
 fieldAddrB False 1 (ptrTo b1) h Bx) h fun v19 h=>
 ag (ah v17 true) (fun DI=>
 load1 False v19 h DI) h fun v21 h=>
 ag (ah v17 true) (fun K22=>
 CallW prog 149 [v21] h K22) h fun v23 h=>
 bf False v17 v23 (.bool false) h fun v24 h=>
 ay v24 (
 κ (.int .i64 2) h) (
 κ (.int .i64 (-1)) h)
def DO (b1:Nat) (h:Heap) (κ:KQ):Prop :=
 fieldAddrB False 0 (ptrTo b1) h fun v5 h=>
 load1 False v5 h fun v6 h=>
 CallW prog 149 [v6] h fun v7 h=>
 ag (ah v7 true) (fun K8=>
 fieldAddrB False 1 (ptrTo b1) h K8) h fun v9 h=>
 ag (ah v7 true) (fun oS=>
 load1 False v9 h oS) h fun v11 h=>
 ag (ah v7 true) (fun mN=>
 au False prog .eql 3 true false v11 (.int .i64 (-1)) h mN) h fun bI h=>
 bf False v7 bI (.bool false) h fun bO h=>
 ay bO (
 κ (.int .i64 1) h) (
 wZ b1 h κ)
theorem Vl (a0:Value) (h:Heap) (κ:KQ):aM prog 112 [a0] h κ = (
 ax False (Value.cells a0).toList 36 false fun o0 => aj False o0 h fun b1 h=>
 aH (aD none 2 (ptrTo b1) h fun v _=>some v) h fun v2 h=>
 CallW prog 148 [] h fun v3 h=>
 dM ((gz (aD none 2 (ptrTo b1) h fun v _=>some v) v2) && true) (aH (au none prog .eql 36 false false v2 v3 h fun v _=>some v) h fun v4 h=>
 ay v4 (
 κ (.int .i64 0) h) (
 DO b1 h κ))) := by kernel_rfl
theorem Vm (a0:Value) (h:Heap) (κ:KQ):aM prog 113 [a0] h κ = (
 au False prog .geq 3 true false a0 (.int .i64 1) h fun v0 h=>
 ag (ah v0 true) (fun K1=>
 K1 a0 h) h fun v2 h=>
 ag (ah v0 true) (fun K3=>
 au False prog .leq 3 true false v2 (.int .i64 16) h K3) h fun v4 h=>
 bf False v0 v4 (.bool false) h fun v5 h=>
 κ v5 h) := by kernel_rfl
theorem Vn (a0:Value) (h:Heap) (κ:KQ):aM prog 114 [a0] h κ = (
 ax False (Value.cells a0).toList 36 false fun o0 => aj False o0 h fun b1 h=>
 aD False 2 (ptrTo b1) h fun v2 h=>
 CallW prog 151 [v2] h fun v3 h=>
 CallW prog 150 [v3] h fun v4 h=>
 κ v4 h) := by kernel_rfl
theorem Vo (h:Heap) (κ:KQ):aM prog 116 [] h κ = (
 aj False (.map [] 0) h fun b1 h=>
 cI False prog 3 (iQ b1) (.int .i64 1) (Value.func (.func 155) (Array.mk []) (Array.mk [])) h fun v2 h=>
 cI False prog 3 (iQ b1) (.int .i64 2) (Value.func (.func 156) (Array.mk []) (Array.mk [])) h fun v3 h=>
 cI False prog 3 (iQ b1) (.int .i64 3) (Value.func (.func 157) (Array.mk []) (Array.mk [])) h fun v4 h=>
 κ (iQ b1) h) := by kernel_rfl
theorem Vp (a0:Value) (h:Heap) (κ:KQ):aM prog 117 [a0] h κ = (
 aH (some a0) h fun v0 h=>
 aH (aV none v0 h fun v _=>some v) h fun v1 h=>
 aH (fieldAddrB none 7 v1 h fun v _=>some v) h fun v2 h=>
 aH (load1 none v2 h fun v _=>some v) h fun v3 h=>
 aH (aV none v3 h fun v _=>some v) h fun v4 h=>
 aH (fieldAddrB none 1 v4 h fun v _=>some v) h fun v5 h=>
 aH (load1 none v5 h fun v _=>some v) h fun v6 h=>
 aH (some a0) h fun v7 h=>
 aH (aV none v7 h fun v _=>some v) h fun v8 h=>
 aH (fieldAddrB none 10 v8 h fun v _=>some v) h fun v9 h=>
 aH (load1 none v9 h fun v _=>some v) h fun v10 h=>
 aH (some a0) h fun v11 h=>
 aH (aV none v11 h fun v _=>some v) h fun v12 h=>
 aH (fieldAddrB none 8 v12 h fun v _=>some v) h fun bI h=>
 aH (load1 none bI h fun v _=>some v) h fun bO h=>
 CallW prog 158 [v6,v10,bO] h fun bN h=>
 CallW prog 159 [a0] h fun v16 h=>
 κ (Value.tuple (Array.mk [])) h) := by kernel_rfl
theorem Vq (a0 a1:Value) (h:Heap) (κ:KQ):aM prog 118 [a0,a1] h κ = (
 ax False (Value.cells a0).toList 81 false fun o0 => aj False o0 h fun b1 h=>
 ax False [(.int .i64 0),(.int .i64 0),(.int .i64 0),(.int .i64 0),(.int .i64 0)] 83 false fun o2 => aj False o2 h fun b3 h=>
 aD False 4 (ptrTo b1) h fun v4 h=>
 CallW prog 119 [v4,a1] h fun v5 h=>
 au False prog .lss 3 true false v5 (.int .i64 0) h fun v6 h=>
 ay v6 (
 bC False [] [] [(.int .i64 0),(.int .i64 0),(.int .i64 0),(.int .i64 0),(.int .i64 0)] fun cs7=>
 aI False 5 (ptrTo b3) (Value.agg (Array.mk cs7)) h fun v8 h=>
 aD False 5 (ptrTo b3) h fun v9 _ => κ (Value.tuple (Array.mk [v9,(.bool false)])) h) (
 fieldAddrB False 2 (ptrTo b1) h fun v10 h=>
 load1 False v10 h fun v11 h=>
 aq False 5 v11 v5 h fun v12 h=>
 aD False 5 v12 h fun bI h=>
 aI False 5 (ptrTo b3) bI h fun bO h=>
 aD False 5 (ptrTo b3) h fun bN _ => κ (Value.tuple (Array.mk [bN,(.bool true)])) h)) := by kernel_rfl
def w5 (b1:Nat) (l3:List Value) (a1:Value) (N2:List Value→Heap→Prop) (v4 v5 v6 v7:Value) (h:Heap) (κ:KQ):Prop :=
 fieldAddrB False 2 (ptrTo b1) h fun v8 h=>
 load1 False v8 h fun v9 h=>
 aq False 5 v9 (slot l3 17) h fun v10 h=>
 fieldAddrB False 0 v10 h fun v11 h=>
 load1 False v11 h fun v12 h=>
 au False prog .eql 3 false false v12 a1 h fun bI h=>
 ay bI (
 κ (slot l3 17) h) (
 au False prog .add 3 true false (slot l3 17) (.int .i64 1) h fun bO h=>
 N2 [(slot l3 17),v4,v5,v6,v7,v8,v9,(slot l3 17),v10,v11,v12,a1,bI,(slot l3 13),(slot l3 14),(slot l3 17),bO,bO] h)
def sq (b1:Nat) (l3:List Value) (a1:Value) (N2:List Value→Heap→Prop) (h:Heap) (κ:KQ):Prop :=
 fieldAddrB False 2 (ptrTo b1) h fun v4 h=>
 load1 False v4 h fun v5 h=>
 br False v5 h fun v6 h=>
 au False prog .lss 3 false false (slot l3 17) v6 h fun v7 h=>
 ay v7 (
 w5 b1 l3 a1 N2 v4 v5 v6 v7 h κ) (
 κ (.int .i64 (-1)) h)
theorem Vr (a0 a1:Value) (h:Heap) (κ:KQ):aM prog 119 [a0,a1] h κ = (
 ax False (Value.cells a0).toList 81 false fun o0 => aj False o0 h fun b1 h=>
 b6 [undef,undef,undef,undef,undef,undef,undef,undef,undef,undef,undef,undef,undef,undef,(.int .i64 0),undef,undef,(.int .i64 0)] h fun l3 h N2=>
 sq b1 l3 a1 N2 h κ) := by kernel_rfl
theorem Vs (a0 a1:Value) (h:Heap) (κ:KQ):aM prog 120 [a0,a1] h κ = (
 ax False (Value.cells a0).toList 81 false fun o0 => aj False o0 h fun b1 h=>
 ax False [(.int .i64 0),(.int .i64 0),(.slice none 0 0),(.int .i64 0)] 81 false fun o2 => aj False o2 h fun b3 h=>
 aD False 4 (ptrTo b1) h fun v4 h=>
 CallW prog 125 [v4] h fun v5 h=>
 ax False [(.int .i64 0),(.int .i64 0),(.slice none 0 0),(.int .i64 0)] 81 false fun o6 => aj False o6 h fun b7 h=>
 aI False 4 (ptrTo b7) v5 h fun v8 h=>
 aH (fieldAddrB none 2 (ptrTo b7) h fun v _=>some v) h fun v9 h=>
 aH (load1 none v9 h fun v _=>some v) h fun v10 h=>
 aH (some a1) h fun v11 h=>
 aH (sliceB none 83 5 v10 none (some v11) none h fun v _=>some v) h fun v12 h=>
 aH (fieldAddrB none 2 (ptrTo b1) h fun v _=>some v) h fun bI h=>
 aH (load1 none bI h fun v _=>some v) h fun bO h=>
 aH (some a1) h fun bN h=>
 aH (au none prog .add 3 true false bN (.int .i64 1) h fun v _=>some v) h fun v16 h=>
 aH (sliceB none 83 5 bO (some v16) none none h fun v _=>some v) h fun v17 h=>
 bu False 83 5 [(.int .i64 0),(.int .i64 0),(.int .i64 0),(.int .i64 0),(.int .i64 0)] false v12 v17 h fun bR h=>
 aH (fieldAddrB none 2 (ptrTo b7) h fun v _=>some v) h fun v19 h=>
 aI False 1 v19 bR h fun v20 h=>
 aD False 4 (ptrTo b7) h fun v21 h=>
 aI False 4 (ptrTo b3) v21 h fun v22 h=>
 aD False 4 (ptrTo b3) h fun v23 _ => κ v23 h) := by kernel_rfl
theorem Vt (a0 a1:Value) (h:Heap) (κ:KQ):aM prog 121 [a0,a1] h κ = (
 au False prog .geq 3 true false a1 (.int .i64 0) h fun v0 h=>
 ag (ah v0 true) (fun K1=>
 K1 a1 h) h fun v2 h=>
 ag (ah v0 true) (fun K3=>
 K3 a0 h) h fun v4 h=>
 ag (ah v0 true) (fun K5=>
 aV False v4 h K5) h fun v6 h=>
 ag (ah v0 true) (fun K7=>
 fieldAddrB False 0 v6 h K7) h fun v8 h=>
 ag (ah v0 true) (fun K9=>
 load1 False v8 h K9) h fun v10 h=>
 ag (ah v0 true) (fun K11=>
 br False v10 h K11) h fun v12 h=>
 ag (ah v0 true) (fun Vf=>
 au False prog .lss 3 false false v2 v12 h Vf) h fun bO h=>
 bf False v0 bO (.bool false) h fun bN h=>
 ag (ah bN true) (fun uS=>
 uS a0 h) h fun v17 h=>
 ag (ah bN true) (fun Bx=>
 aV False v17 h Bx) h fun v19 h=>
 ag (ah bN true) (fun DI=>
 fieldAddrB False 0 v19 h DI) h fun v21 h=>
 ag (ah bN true) (fun K22=>
 load1 False v21 h K22) h fun v23 h=>
 ag (ah bN true) (fun DC=>
 DC a1 h) h fun v25 h=>
 ag (ah bN true) (fun Bs=>
 aq False 1 v23 v25 h Bs) h fun v27 h=>
 ag (ah bN true) (fun DB=>
 load1 False v27 h DB) h fun fG h=>
 bf False bN fG (.bool false) h fun v30 h=>
 κ v30 h) := by kernel_rfl
def DP (b7:Nat) (ct:List Value) (mY:List Value) (N9:List Value→Heap→Prop) (v11 v12 bR v19 v20 v22 v24 v26 v28 v30 v32 gY iP mu v40 v41:Value) (h:Heap):Prop :=
 aH (fieldAddrB none 2 (ptrTo b7) h fun v _=>some v) h fun v45 h=>
 aH (load1 none v45 h fun v _=>some v) h fun v46 h=>
 aH (some (slot ct 4)) h fun jQ h=>
 aH (fieldAddrB none 2 (ptrTo b7) h fun v _=>some v) h fun jH h=>
 aH (load1 none jH h fun v _=>some v) h fun v49 h=>
 aH (some (slot ct 4)) h fun v50 h=>
 aH (fieldAddrB none 2 (ptrTo b7) h fun v _=>some v) h fun v51 h=>
 aH (load1 none v51 h fun v _=>some v) h fun nR h=>
 aH (some (slot ct 4)) h fun v53 h=>
 aH (aq none 5 nR v53 h fun v _=>some v) h fun v54 h=>
 aH (fieldAddrB none 3 v54 h fun v _=>some v) h fun v55 h=>
 aH (load1 none v55 h fun v _=>some v) h fun qa h=>
 aH (aq none 5 v46 jQ h fun v _=>some v) h fun oR h=>
 aH (fieldAddrB none 2 oR h fun v _=>some v) h fun v58 h=>
 aI False 1 v58 qa h fun v59 h=>
 dM ((gz (fieldAddrB none 2 (ptrTo b7) h fun v _=>some v) jH) && ((gz (load1 none jH h fun v _=>some v) v49) && ((gz (some (slot ct 4)) v50) && true))) (aH (aq none 5 v49 v50 h fun v _=>some v) h fun v60 h=>
 aH (fieldAddrB none 4 v60 h fun v _=>some v) h fun qp h=>
 aI False 1 qp (.int .i64 0) h fun sX h=>
 fieldAddrB False 2 (ptrTo b7) h fun oh h=>
 load1 False oh h fun v64 h=>
 aq False 5 v64 (slot ct 4) h fun mX h=>
 fieldAddrB False 0 mX h fun v66 h=>
 load1 False v66 h fun v67 h=>
 bC False [(0,1)] [v67] (aU [(.int .i64 0)] 1) fun afo => ax False afo 3 false fun o68 => aj False o68 h fun b69 h=>
 bu False 3 1 [(.int .i64 0)] false (slot mY 49) (sliceTo 1 1 b69) h fun ru h=>
 N9 [v11,v12,(slot ct 0),(slot ct 1),(slot ct 2),(slot ct 3),(slot ct 4),bR,v19,v20,v22,v24,v26,v28,v30,v32,gY,iP,mu,v40,v41,(slot mY 21),(slot mY 22),(slot mY 23),v45,v46,jQ,jH,v49,v50,v51,nR,v53,v54,v55,qa,oR,v58,v60,qp,(slot mY 49),oh,v64,(slot ct 4),mX,v66,v67,(sliceTo 1 1 b69),ru,ru] h)
def w6 (ct:List Value) (b7 b3:Nat) (mY:List Value) (N9:List Value→Heap→Prop) (v11 v12:Value) (h:Heap) (κ:KQ):Prop :=
 aH (some (slot ct 4)) h fun bR h=>
 aH (au none prog .lss 3 true false bR (.int .i64 0) h fun v _=>some v) h fun v19 h=>
 aH (some v19) h fun v20 h=>
 ag (ah v20 false) (fun DD=>
 aH (aD none 4 (ptrTo b7) h fun v _=>some v) h DD) h fun v22 h=>
 ag (ah v20 false) (fun DE=>
 aH (fieldAddrB none 2 (ptrTo b7) h fun v _=>some v) h DE) h fun v24 h=>
 ag (ah v20 false) (fun Nb=>
 aH (load1 none v24 h fun v _=>some v) h Nb) h fun v26 h=>
 ag (ah v20 false) (fun Gy=>
 aH (some (slot ct 4)) h Gy) h fun v28 h=>
 ag (ah v20 false) (fun Gz=>
 aH (aq none 5 v26 v28 h fun v _=>some v) h Gz) h fun v30 h=>
 ag (ah v20 false) (fun Gv=>
 aH (fieldAddrB none 3 v30 h fun v _=>some v) h Gv) h fun v32 h=>
 ag (ah v20 false) (fun Kl=>
 aH (load1 none v32 h fun v _=>some v) h Kl) h fun gY h=>
 ag (ah v20 false) (fun QM=>
 aH (some (slot ct 4)) h QM) h fun iP h=>
 ag (ah v20 false) (fun QN=>
 CallW prog 127 [v22,gY,iP] h QN) h fun mu h=>
 ag (ah v20 false) (fun U7=>
 aH (jv none .not mu h fun v _=>some v) h U7) h fun v40 h=>
 aH (bf none v20 (.bool true) v40 h fun v _=>some v) h fun v41 h=>
 ay v41 (
 aD False 4 (ptrTo b7) h fun iD h=>
 aI False 4 (ptrTo b3) iD h fun gM h=>
 aD False 4 (ptrTo b3) h fun v44 _ => κ (Value.tuple (Array.mk [v44,(slot mY 49)])) h) (
 DP b7 ct mY N9 v11 v12 bR v19 v20 v22 v24 v26 v28 v30 v32 gY iP mu v40 v41 h)
def DQ (b7:Nat) (mY:List Value) (b3:Nat) (N9:List Value→Heap→Prop) (h:Heap) (κ:KQ):Prop :=
 aD False 4 (ptrTo b7) h fun v11 h=>
 CallW prog 128 [v11] h fun v12 h=>
 dD (fun Cy=>
 au False prog .lss 3 true false v12 (.int .i64 0) h fun bN h=>
 ay bN (
 aD False 4 (ptrTo b7) h fun v16 h=>
 CallW prog 130 [v16] h fun v17 h=>
 Cy [v12,bN,v16,v17,v17] h) (
 Cy [v12,bN,(slot mY 4),(slot mY 5),v12] h)) fun ct h=>
 w6 ct b7 b3 mY N9 v11 v12 h κ
theorem Vu (a0:Value) (h:Heap) (κ:KQ):aM prog 122 [a0] h κ = (
 ax False (Value.cells a0).toList 81 false fun o0 => aj False o0 h fun b1 h=>
 ax False [(.int .i64 0),(.int .i64 0),(.slice none 0 0),(.int .i64 0)] 81 false fun o2 => aj False o2 h fun b3 h=>
 aD False 4 (ptrTo b1) h fun v4 h=>
 CallW prog 125 [v4] h fun v5 h=>
 ax False [(.int .i64 0),(.int .i64 0),(.slice none 0 0),(.int .i64 0)] 81 false fun o6 => aj False o6 h fun b7 h=>
 aI False 4 (ptrTo b7) v5 h fun v8 h=>
 b6 [undef,undef,undef,undef,undef,undef,undef,undef,undef,undef,undef,undef,undef,undef,undef,undef,undef,undef,undef,undef,undef,undef,undef,(.slice none 0 0),undef,undef,undef,undef,undef,undef,undef,undef,undef,undef,undef,undef,undef,undef,undef,undef,undef,undef,undef,undef,undef,undef,undef,undef,undef,(.slice none 0 0)] h fun mY h N9=>
 DQ b7 mY b3 N9 h κ) := by kernel_rfl
theorem Vv (a0:Value) (h:Heap) (κ:KQ):aM prog 123 [a0] h κ = (
 au False prog .neq 37 true false a0 (.int .i64 0) h fun v0 h=>
 ag (ah v0 true) (fun K1=>
 K1 a0 h) h fun v2 h=>
 ag (ah v0 true) (fun K3=>
 CallW prog 50 [v2] h K3) h fun v4 h=>
 bf False v0 v4 (.bool false) h fun v5 h=>
 κ v5 h) := by kernel_rfl
theorem Vw (a0:Value) (h:Heap) (κ:KQ):aM prog 124 [a0] h κ = (
 ax False (Value.cells a0).toList 83 false fun o0 => aj False o0 h fun b1 h=>
 fieldAddrB False 4 (ptrTo b1) h fun v2 h=>
 load1 False v2 h fun v3 h=>
 au False prog .gtr 3 true false v3 (.int .i64 0) h fun v4 h=>
 κ v4 h) := by kernel_rfl
theorem Vx (a0:Value) (h:Heap) (κ:KQ):aM prog 125 [a0] h κ = (
 ax False (Value.cells a0).toList 81 false fun o0 => aj False o0 h fun b1 h=>
 ax False [(.int .i64 0),(.int .i64 0),(.slice none 0 0),(.int .i64 0)] 81 false fun o2 => aj False o2 h fun b3 h=>
 bC False [] [] (aU [(.int .i64 0),(.int .i64 0),(.int .i64 0),(.int .i64 0),(.int .i64 0)] 0) fun Vd => ax False Vd 83 false fun o4 => aj False o4 h fun b5 h=>
 fieldAddrB False 2 (ptrTo b1) h fun v7 h=>
 load1 False v7 h fun v8 h=>
 bu False 83 5 [(.int .i64 0),(.int .i64 0),(.int .i64 0),(.int .i64 0),(.int .i64 0)] false (sliceTo 0 0 b5) v8 h fun v9 h=>
 fieldAddrB False 2 (ptrTo b1) h fun v10 h=>
 aI False 1 v10 v9 h fun v11 h=>
 aD False 4 (ptrTo b1) h fun v12 h=>
 aI False 4 (ptrTo b3) v12 h fun bI h=>
 aD False 4 (ptrTo b3) h fun bO _ => κ bO h) := by kernel_rfl
def w8 (l3:List Value) (a2:Value) (b1:Nat) (a1:Value) (N2:List Value→Heap→Prop) (v4 v5 v6 v7:Value) (h:Heap) (κ:KQ):Prop :=
 au False prog .neq 3 false false (slot l3 30) a2 h fun v8 h=>
 ag (ah v8 true) (fun K9=>
 fieldAddrB False 2 (ptrTo b1) h K9) h fun v10 h=>
 ag (ah v8 true) (fun K11=>
 load1 False v10 h K11) h fun v12 h=>
 ag (ah v8 true) (fun Vf=>
 Vf (slot l3 30) h) h fun bO h=>
 ag (ah v8 true) (fun Vb=>
 aq False 5 v12 bO h Vb) h fun v16 h=>
 ag (ah v8 true) (fun M8=>
 aD False 5 v16 h M8) h fun bR h=>
 ag (ah v8 true) (fun Bt=>
 CallW prog 161 [bR] h Bt) h fun v20 h=>
 bf False v8 v20 (.bool false) h fun v21 h=>
 ag (ah v21 true) (fun K22=>
 fieldAddrB False 2 (ptrTo b1) h K22) h fun v23 h=>
 ag (ah v21 true) (fun DC=>
 load1 False v23 h DC) h fun v25 h=>
 ag (ah v21 true) (fun Bs=>
 Bs (slot l3 30) h) h fun v27 h=>
 ag (ah v21 true) (fun DB=>
 aq False 5 v25 v27 h DB) h fun fG h=>
 ag (ah v21 true) (fun Gr=>
 fieldAddrB False 2 fG h Gr) h fun v31 h=>
 ag (ah v21 true) (fun QJ=>
 load1 False v31 h QJ) h fun v33 h=>
 ag (ah v21 true) (fun Z3=>
 Z3 a1 h) h fun v35 h=>
 ag (ah v21 true) (fun U_=>
 CallW prog 29 [v33,v35] h U_) h fun v37 h=>
 ag (ah v21 true) (fun Va=>
 jv False .not v37 h Va) h fun v39 h=>
 bf False v21 v39 (.bool false) h fun v40 h=>
 ay v40 (
 κ (.bool false) h) (
 au False prog .add 3 true false (slot l3 30) (.int .i64 1) h fun v41 h=>
 N2 [(slot l3 30),v4,v5,v6,v7,(slot l3 30),a2,v8,v8,v10,v12,bO,v16,bR,v20,v21,v21,v23,v25,v27,fG,v31,v33,v35,v37,v39,v40,(slot l3 27),(slot l3 30),v41,v41] h)
def w9 (b1:Nat) (l3:List Value) (a2 a1:Value) (N2:List Value→Heap→Prop) (h:Heap) (κ:KQ):Prop :=
 fieldAddrB False 2 (ptrTo b1) h fun v4 h=>
 load1 False v4 h fun v5 h=>
 br False v5 h fun v6 h=>
 au False prog .lss 3 false false (slot l3 30) v6 h fun v7 h=>
 ay v7 (
 w8 l3 a2 b1 a1 N2 v4 v5 v6 v7 h κ) (
 κ (.bool true) h)
theorem Vy (a0 a1 a2:Value) (h:Heap) (κ:KQ):aM prog 127 [a0,a1,a2] h κ = (
 ax False (Value.cells a0).toList 81 false fun o0 => aj False o0 h fun b1 h=>
 b6 [undef,undef,undef,undef,undef,undef,undef,undef,undef,undef,undef,undef,undef,undef,undef,undef,undef,undef,undef,undef,undef,undef,undef,undef,undef,undef,undef,(.bool false),undef,undef,(.int .i64 0)] h fun l3 h N2=>
 w9 b1 l3 a2 a1 N2 h κ) := by kernel_rfl
def DR (b1:Nat) (l3:List Value) (N8:List Value→Heap→Prop) (h:Heap):Prop :=
 fieldAddrB False 2 (ptrTo b1) h fun v10 h=>
 load1 False v10 h fun v11 h=>
 aq False 5 v11 (slot l3 36) h fun v12 h=>
 aD False 5 v12 h fun bI h=>
 ax False [(.int .i64 0),(.int .i64 0),(.int .i64 0),(.int .i64 0),(.int .i64 0)] 83 false fun Vi => aj False Vi h fun Jh h=>
 aI False 5 (ptrTo Jh) bI h fun v16 h=>
 aH (aD none 5 (ptrTo Jh) h fun v _=>some v) h fun v17 h=>
 CallW prog 161 [v17] h fun bR h=>
 aH (some bR) h fun v19 h=>
 ag (ah v19 true) (fun DI=>
 aH (aD none 5 (ptrTo Jh) h fun v _=>some v) h DI) h fun v21 h=>
 ag (ah v19 true) (fun K22=>
 CallW prog 124 [v21] h K22) h fun v23 h=>
 aH (bf none v19 v23 (.bool false) h fun v _=>some v) h fun v24 h=>
 aH (some v24) h fun v25 h=>
 ag (ah v25 true) (fun Bs=>
 aH (some (slot l3 33)) h Bs) h fun v27 h=>
 ag (ah v25 true) (fun DB=>
 aH (au none prog .lss 3 true false v27 (.int .i64 0) h fun v _=>some v) h DB) h fun fG h=>
 ag (ah v25 true) (fun Gr=>
 aH (some fG) h Gr) h fun v31 h=>
 ag (ah v31 false) (fun QJ=>
 aH (fieldAddrB none 4 (ptrTo Jh) h fun v _=>some v) h QJ) h fun v33 h=>
 ag (ah v31 false) (fun Z3=>
 aH (load1 none v33 h fun v _=>some v) h Z3) h fun v35 h=>
 ag (ah v31 false) (fun U_=>
 aH (fieldAddrB none 2 (ptrTo b1) h fun v _=>some v) h U_) h fun v37 h=>
 ag (ah v31 false) (fun Va=>
 aH (load1 none v37 h fun v _=>some v) h Va) h fun v39 h=>
 ag (ah v31 false) (fun QO=>
 aH (some (slot l3 33)) h QO) h fun v41 h=>
 ag (ah v31 false) (fun QS=>
 aH (aq none 5 v39 v41 h fun v _=>some v) h QS) h fun gM h=>
 ag (ah v31 false) (fun QT=>
 aH (fieldAddrB none 4 gM h fun v _=>some v) h QT) h fun v45 h=>
 ag (ah v31 false) (fun Z4=>
 aH (load1 none v45 h fun v _=>some v) h Z4) h fun jQ h=>
 ag (ah v31 false) (fun K48=>
 aH (au none prog .lss 3 false false v35 jQ h fun v _=>some v) h K48) h fun v49 h=>
 ag (ah v25 true) (fun K50=>
 aH (bf none v31 (.bool true) v49 h fun v _=>some v) h K50) h fun v51 h=>
 aH (bf none v25 v51 (.bool false) h fun v _=>some v) h fun nR h=>
 ay nR (
 N8 [v10,v11,(slot l3 36),v12,bI,(ptrTo Jh),v17,bR,v19,v21,v23,v24,v25,v27,fG,v31,v33,v35,v37,v39,v41,gM,v45,jQ,v49,v51,nR,(slot l3 36),(slot l3 36)] h) (
 N8 [v10,v11,(slot l3 36),v12,bI,(ptrTo Jh),v17,bR,v19,v21,v23,v24,v25,v27,fG,v31,v33,v35,v37,v39,v41,gM,v45,jQ,v49,v51,nR,(slot l3 32),(slot l3 33)] h)
def w_ (b1:Nat) (l3:List Value) (N2:List Value→Heap→Prop) (h:Heap) (κ:KQ):Prop :=
 fieldAddrB False 2 (ptrTo b1) h fun v4 h=>
 load1 False v4 h fun v5 h=>
 br False v5 h fun v6 h=>
 au False prog .lss 3 false false (slot l3 36) v6 h fun v7 h=>
 ay v7 (
 dD (fun N8=>
 DR b1 l3 N8 h) fun l9 h=>
 au False prog .add 3 true false (slot l3 36) (.int .i64 1) h fun v53 h=>
 N2 [(slot l3 36),v4,v5,v6,v7,(slot l9 0),(slot l9 1),(slot l9 2),(slot l9 3),(slot l9 4),(slot l9 5),(slot l9 6),(slot l9 7),(slot l9 8),(slot l9 9),(slot l9 10),(slot l9 11),(slot l9 12),(slot l9 13),(slot l9 14),(slot l9 15),(slot l9 16),(slot l9 17),(slot l9 18),(slot l9 19),(slot l9 20),(slot l9 21),(slot l9 22),(slot l9 23),(slot l9 24),(slot l9 25),(slot l9 26),(slot l9 27),(slot l9 28),(slot l3 36),v53,v53] h) (
 κ (slot l3 33) h)
theorem Vz (a0:Value) (h:Heap) (κ:KQ):aM prog 128 [a0] h κ = (
 ax False (Value.cells a0).toList 81 false fun o0 => aj False o0 h fun b1 h=>
 b6 [undef,undef,undef,undef,undef,undef,undef,undef,undef,undef,undef,undef,undef,undef,undef,undef,undef,undef,undef,undef,undef,undef,undef,undef,undef,undef,undef,undef,undef,undef,undef,undef,undef,(.int .i64 (-1)),undef,undef,(.int .i64 0)] h fun l3 h N2=>
 w_ b1 l3 N2 h κ) := by kernel_rfl
def xb (a0:Value) (l1:List Value) (N7:List Value→Heap→Prop) (h:Heap):Prop :=
 aV False a0 h fun v9 h=>
 fieldAddrB False 0 v9 h fun v10 h=>
 load1 False v10 h fun v11 h=>
 aq False 1 v11 (slot l1 21) h fun v12 h=>
 load1 False v12 h fun bI h=>
 ay bI (
 bC False [(0,1)] [(slot l1 21)] (aU [(.int .i64 0)] 1) fun afq => ax False afq 3 false fun Vi => aj False Vi h fun Jh h=>
 bu False 3 1 [(.int .i64 0)] false (slot l1 18) (sliceTo 1 1 Jh) h fun v17 h=>
 N7 [a0,v9,v10,v11,(slot l1 21),v12,bI,(slot l1 18),(slot l1 21),(sliceTo 1 1 Jh),v17,v17] h) (
 N7 [a0,v9,v10,v11,(slot l1 21),v12,bI,(slot l1 14),(slot l1 15),(slot l1 16),(slot l1 17),(slot l1 18)] h)
def xe (a0:Value) (l1:List Value) (N0:List Value→Heap→Prop) (h:Heap) (κ:KQ):Prop :=
 aV False a0 h fun v2 h=>
 fieldAddrB False 0 v2 h fun v3 h=>
 load1 False v3 h fun v4 h=>
 br False v4 h fun v5 h=>
 au False prog .lss 3 false false (slot l1 21) v5 h fun v6 h=>
 ay v6 (
 dD (fun N7=>
 xb a0 l1 N7 h) fun l8 h=>
 au False prog .add 3 true false (slot l1 21) (.int .i64 1) h fun bR h=>
 N0 [(slot l1 21),a0,v2,v3,v4,v5,v6,(slot l8 0),(slot l8 1),(slot l8 2),(slot l8 3),(slot l8 4),(slot l8 5),(slot l8 6),(slot l8 7),(slot l8 8),(slot l8 9),(slot l8 10),(slot l8 11),(slot l1 21),bR,bR] h) (
 κ (slot l1 18) h)
theorem VA (a0:Value) (h:Heap) (κ:KQ):aM prog 129 [a0] h κ = (
 b6 [undef,undef,undef,undef,undef,undef,undef,undef,undef,undef,undef,undef,undef,undef,undef,undef,undef,undef,(.slice none 0 0),undef,undef,(.int .i64 0)] h fun l1 h N0=>
 xe a0 l1 N0 h κ) := by kernel_rfl
def DS (b1:Nat) (l3:List Value) (N2:List Value→Heap→Prop) (v4 v5 v6 v7:Value) (h:Heap) (κ:KQ):Prop :=
 fieldAddrB False 2 (ptrTo b1) h fun v8 h=>
 load1 False v8 h fun v9 h=>
 aq False 5 v9 (slot l3 16) h fun v10 h=>
 aD False 5 v10 h fun v11 h=>
 CallW prog 161 [v11] h fun v12 h=>
 jv False .not v12 h fun bI h=>
 ay bI (
 κ (slot l3 16) h) (
 au False prog .add 3 true false (slot l3 16) (.int .i64 1) h fun bO h=>
 N2 [(slot l3 16),v4,v5,v6,v7,v8,v9,(slot l3 16),v10,v11,v12,bI,(slot l3 12),(slot l3 13),(slot l3 16),bO,bO] h)
def xg (b1:Nat) (l3:List Value) (N2:List Value→Heap→Prop) (h:Heap) (κ:KQ):Prop :=
 fieldAddrB False 2 (ptrTo b1) h fun v4 h=>
 load1 False v4 h fun v5 h=>
 br False v5 h fun v6 h=>
 au False prog .lss 3 false false (slot l3 16) v6 h fun v7 h=>
 ay v7 (
 DS b1 l3 N2 v4 v5 v6 v7 h κ) (
 κ (.int .i64 (-1)) h)
theorem VB (a0:Value) (h:Heap) (κ:KQ):aM prog 130 [a0] h κ = (
 ax False (Value.cells a0).toList 81 false fun o0 => aj False o0 h fun b1 h=>
 b6 [undef,undef,undef,undef,undef,undef,undef,undef,undef,undef,undef,undef,undef,(.int .i64 0),undef,undef,(.int .i64 0)] h fun l3 h N2=>
 xg b1 l3 N2 h κ) := by kernel_rfl
theorem VC (a0:Value) (h:Heap) (κ:KQ):aM prog 133 [a0] h κ = (
 au False prog .neq 3 false false a0 a0 h fun v0 h=>
 κ v0 h) := by kernel_rfl
theorem VD (a0:Value) (h:Heap) (κ:KQ):aM prog 135 [a0] h κ = (
 CallI prog "Len" a0 [] h fun v0 h=>
 au False prog .sub 3 true false v0 (.int .i64 1) h fun v1 h=>
 CallI prog "Swap" a0 [(.int .i64 0),v1] h fun v2 h=>
 CallW prog 172 [a0,(.int .i64 0),v1] h fun v3 h=>
 CallI prog "Pop" a0 [] h fun v4 h=>
 κ v4 h) := by kernel_rfl
def DT (a1 a0:Value) (h:Heap) (κ:KQ):Prop :=
 au False prog .lss 3 true false a1 (.int .i64 0) h fun v1 h=>
 ag (ah v1 false) (fun K2=>
 K2 a1 h) h fun v3 h=>
 ag (ah v1 false) (fun K4=>
 K4 a0 h) h fun v5 h=>
 ag (ah v1 false) (fun K6=>
 aV False v5 h K6) h fun v7 h=>
 ag (ah v1 false) (fun K8=>
 fieldAddrB False 0 v7 h K8) h fun v9 h=>
 ag (ah v1 false) (fun oS=>
 load1 False v9 h oS) h fun v11 h=>
 ag (ah v1 false) (fun mN=>
 br False v11 h mN) h fun bI h=>
 ag (ah v1 false) (fun ry=>
 au False prog .geq 3 false false v3 bI h ry) h fun bN h=>
 bf False v1 (.bool true) bN h fun v16 h=>
 ay v16 (
 κ (.int .i64 2) h) (
 κ (.int .i64 0) h)
theorem VE (a0 a1:Value) (h:Heap) (κ:KQ):aM prog 136 [a0,a1] h κ = (
 au False prog .eql 102 true false a0 (.pointer none) h fun v0 h=>
 ay v0 (
 κ (.int .i64 1) h) (
 DT a1 a0 h κ)) := by kernel_rfl
theorem VF (a0:Value) (h:Heap) (κ:KQ):aM prog 137 [a0] h κ = (
 br False a0 h fun v0 h=>
 κ v0 h) := by kernel_rfl
theorem VG (a0:Value) (h:Heap) (κ:KQ):aM prog 138 [a0] h κ = (
 aV False a0 h fun v0 h=>
 fieldAddrB False 2 v0 h fun v1 h=>
 load1 False v1 h fun v2 h=>
 CallW prog 174 [v2] h fun v3 h=>
 CallW prog 173 [v3,(Value.func (.func 92) (Array.mk []) (Array.mk []))] h fun v4 h=>
 κ v4 h) := by kernel_rfl
theorem VH (a0 a1:Value) (h:Heap) (κ:KQ):aM prog 146 [a0,a1] h κ = (
 CallI prog "Push" a0 [a1] h fun v0 h=>
 CallI prog "Len" a0 [] h fun v1 h=>
 au False prog .sub 3 true false v1 (.int .i64 1) h fun v2 h=>
 CallW prog 199 [a0,v2] h fun v3 h=>
 κ (Value.tuple (Array.mk [])) h) := by kernel_rfl
theorem VI (h:Heap) (κ:KQ):aM prog 148 [] h κ = (
 ax False [(.int .i64 0),(.int .i64 0)] 36 false fun o0 => aj False o0 h fun b1 h=>
 bC False [(0,1),(1,1)] [(.int .i64 (-1)),(.int .i64 (-1))] [(.int .i64 0),(.int .i64 0)] fun QU=>
 aI False 2 (ptrTo b1) (Value.agg (Array.mk QU)) h fun v3 h=>
 aD False 2 (ptrTo b1) h fun v4 _ => κ v4 h) := by kernel_rfl
theorem VJ (a0:Value) (h:Heap) (κ:KQ):aM prog 149 [a0] h κ = (
 au False prog .geq 3 true false a0 (.int .i64 0) h fun v0 h=>
 ag (ah v0 true) (fun K1=>
 K1 a0 h) h fun v2 h=>
 ag (ah v0 true) (fun K3=>
 au False prog .lss 3 true false v2 (.int .i64 100) h K3) h fun v4 h=>
 bf False v0 v4 (.bool false) h fun v5 h=>
 κ v5 h) := by kernel_rfl
def DU (v0:Value) (l3:List Value) (N2:List Value→Heap→Prop) (v4:Value) (h:Heap):Prop :=
 aq False 1 v0 (slot l3 12) h fun v5 h=>
 load1 False v5 h fun v6 h=>
 jb False .u32 v6 h fun v7 h=>
 au False prog .xor 142 false false (slot l3 10) v7 h fun v8 h=>
 au False prog .mul 142 true false v8 (Value.int .u32 (16777619)) h fun v9 h=>
 au False prog .add 3 true false (slot l3 12) (.int .i64 1) h fun v10 h=>
 N2 [v4,v5,v6,v6,(slot l3 10),v6,v7,v8,v8,v9,v9,v10,v10] h
theorem VK (a0:Value) (h:Heap) (κ:KQ):aM prog 150 [a0] h κ = (
 ot False 5 a0 h fun v0 h=>
 br False v0 h fun v1 h=>
 b6 [undef,undef,undef,undef,undef,undef,undef,undef,undef,undef,(Value.int .u32 (2166136261)),undef,(.int .i64 0)] h fun l3 h N2=>
 au False prog .lss 3 false false (slot l3 12) v1 h fun v4 h=>
 ay v4 (
 DU v0 l3 N2 v4 h) (
 κ (slot l3 10) h)) := by kernel_rfl
def DV (b1:Nat) (h:Heap) (κ:KQ):Prop :=
 aH (fieldAddrB none 0 (ptrTo b1) h fun v _=>some v) h fun v11 h=>
 aH (load1 none v11 h fun v _=>some v) h fun v12 h=>
 aH (fieldAddrB none 1 (ptrTo b1) h fun v _=>some v) h fun bI h=>
 aH (load1 none bI h fun v _=>some v) h fun bO h=>
 CallW prog 200 [v12] h fun bN h=>
 dM ((gz (fieldAddrB none 1 (ptrTo b1) h fun v _=>some v) bI) && ((gz (load1 none bI h fun v _=>some v) bO) && true)) (aH (au none prog .add 9 true false (Value.string (ByteArray.mk (Array.mk [116]))) bN h fun v _=>some v) h fun v16 h=>
 aH (au none prog .add 9 true false v16 (Value.string (ByteArray.mk (Array.mk [46,114]))) h fun v _=>some v) h fun v17 h=>
 CallW prog 200 [bO] h fun bR h=>
 dM ((gz (au none prog .add 9 true false (Value.string (ByteArray.mk (Array.mk [116]))) bN h fun v _=>some v) v16) && ((gz (au none prog .add 9 true false v16 (Value.string (ByteArray.mk (Array.mk [46,114]))) h fun v _=>some v) v17) && true)) (aH (au none prog .add 9 false false v17 bR h fun v _=>some v) h fun v19 h=>
 κ v19 h))
def xh (v3:Value) (b1:Nat) (h:Heap) (κ:KQ):Prop :=
 au False prog .eql 3 true false v3 (.int .i64 1) h fun v5 h=>
 ay v5 (
 fieldAddrB False 0 (ptrTo b1) h fun v6 h=>
 load1 False v6 h fun v7 h=>
 CallW prog 200 [v7] h fun v8 h=>
 au False prog .add 9 true false (Value.string (ByteArray.mk (Array.mk [116]))) v8 h fun v9 h=>
 κ v9 h) (
 au False prog .eql 3 true false v3 (.int .i64 2) h fun v10 h=>
 ay v10 (
 DV b1 h κ) (
 κ (Value.string (ByteArray.mk (Array.mk [63]))) h))
theorem VL (a0:Value) (h:Heap) (κ:KQ):aM prog 151 [a0] h κ = (
 ax False (Value.cells a0).toList 36 false fun o0 => aj False o0 h fun b1 h=>
 aD False 2 (ptrTo b1) h fun v2 h=>
 CallW prog 112 [v2] h fun v3 h=>
 au False prog .eql 3 true false v3 (.int .i64 0) h fun v4 h=>
 ay v4 (
 κ (Value.string (ByteArray.mk (Array.mk [100,98]))) h) (
 xh v3 b1 h κ)) := by kernel_rfl
theorem VM (a0 a1:Value) (h:Heap) (κ:KQ):aM prog 152 [a0,a1] h κ = (
 ax False [(.int .i64 0),(.int .i64 0)] 36 false fun o0 => aj False o0 h fun b1 h=>
 ax False [(.int .i64 0),(.int .i64 0),(.int .i64 0),(.int .i64 0),(.int .i64 0)] 83 false fun o2 => aj False o2 h fun b3 h=>
 CallW prog 201 [a0,a1] h fun v4 h=>
 CallW prog 202 [v4,a1] h fun v5 h=>
 av False 0 v5 h fun v6 h=>
 av False 1 v5 h fun v7 h=>
 av False 2 v5 h fun v8 h=>
 aI False 2 (ptrTo b1) v6 h fun v9 h=>
 aI False 5 (ptrTo b3) v7 h fun v10 h=>
 aD False 2 (ptrTo b1) h fun v11 _ => aD False 5 (ptrTo b3) h fun v12 _ => κ (Value.tuple (Array.mk [v11,v12,v8])) h) := by kernel_rfl
def DW (a0 v19:Value) (Km:List Value→Heap→Prop) (v20:Value) (h:Heap):Prop :=
 aV False a0 h fun v23 h=>
 fieldAddrB False 7 v23 h fun v24 h=>
 load1 False v24 h fun v25 h=>
 aV False v25 h fun v26 h=>
 fieldAddrB False 0 v26 h fun v27 h=>
 load1 False v27 h fun v28 h=>
 CallW prog 152 [v28,v19] h fun fG h=>
 av False 0 fG h fun v30 h=>
 av False 1 fG h fun v31 h=>
 av False 2 fG h fun v32 h=>
 ax False [(.int .i64 0),(.int .i64 0)] 36 false fun Z1 => aj False Z1 h fun U9 h=>
 ax False [(.int .i64 0),(.int .i64 0),(.int .i64 0),(.int .i64 0),(.int .i64 0)] 83 false fun o35 => aj False o35 h fun b36 h=>
 aI False 2 (ptrTo U9) v30 h fun v37 h=>
 aI False 5 (ptrTo b36) v31 h fun mu h=>
 fieldAddrB False 2 (ptrTo b36) h fun v39 h=>
 load1 False v39 h fun v40 h=>
 Km [v20,a0,v23,v24,v25,v26,v27,v28,v19,fG,fG,v30,v31,v32,(ptrTo U9),(ptrTo b36),v32,v39,v40,v40] h
def xk (qa:Value) (Ng:List Value) (a0 v45:Value) (N61:List Value→Heap→Prop) (h:Heap):Prop :=
 aq False 5 qa (slot Ng 29) h fun oh h=>
 aD False 5 oh h fun v64 h=>
 ax False [(.int .i64 0),(.int .i64 0),(.int .i64 0),(.int .i64 0),(.int .i64 0)] 83 false fun o65 => aj False o65 h fun PJ h=>
 aI False 5 (ptrTo PJ) v64 h fun v67 h=>
 aH (fieldAddrB none 1 (ptrTo PJ) h fun v _=>some v) h fun sY h=>
 aH (load1 none sY h fun v _=>some v) h fun zo h=>
 aH (au none prog .lss 3 true false zo (.int .i64 0) h fun v _=>some v) h fun v70 h=>
 aH (some v70) h fun ru h=>
 ag (ah ru true) (fun K72=>
 aH (fieldAddrB none 1 (ptrTo PJ) h fun v _=>some v) h K72) h fun zn h=>
 ag (ah ru true) (fun K74=>
 aH (load1 none zn h fun v _=>some v) h K74) h fun v75 h=>
 ag (ah ru true) (fun K76=>
 aH (some a0) h K76) h fun v77 h=>
 ag (ah ru true) (fun K78=>
 aH (aV none v77 h fun v _=>some v) h K78) h fun v79 h=>
 ag (ah ru true) (fun K80=>
 aH (fieldAddrB none 0 v79 h fun v _=>some v) h K80) h fun Gt h=>
 ag (ah ru true) (fun K82=>
 aH (fieldAddrB none 1 Gt h fun v _=>some v) h K82) h fun Gu h=>
 ag (ah ru true) (fun K84=>
 aH (load1 none Gu h fun v _=>some v) h K84) h fun v85 h=>
 ag (ah ru true) (fun K86=>
 aH (au none prog .neq 3 false false v75 v85 h fun v _=>some v) h K86) h fun v87 h=>
 aH (bf none ru v87 (.bool false) h fun v _=>some v) h fun Kk h=>
 aH (some Kk) h fun Gw h=>
 ag (ah Gw true) (fun K90=>
 aH (fieldAddrB none 2 (ptrTo PJ) h fun v _=>some v) h K90) h fun v91 h=>
 ag (ah Gw true) (fun K92=>
 aH (load1 none v91 h fun v _=>some v) h K92) h fun v93 h=>
 ag (ah Gw true) (fun K94=>
 aH (some v45) h K94) h fun MZ h=>
 ag (ah Gw true) (fun K96=>
 CallW prog 210 [v93,MZ] h K96) h fun M0 h=>
 ag (ah Gw true) (fun K98=>
 aH (jv none .not M0 h fun v _=>some v) h K98) h fun M1 h=>
 aH (bf none Gw M1 (.bool false) h fun v _=>some v) h fun Gx h=>
 ay Gx (
 fieldAddrB False 0 (ptrTo PJ) h fun M3 h=>
 load1 False M3 h fun M4 h=>
 CallW prog 211 [a0,M4] h fun QL h=>
 N61 [oh,v64,(ptrTo PJ),sY,zo,v70,ru,zn,v75,v77,v79,Gt,Gu,v85,v87,Kk,Gw,v91,v93,MZ,M0,M1,Gx,a0,M3,M4,QL] h) (
 N61 [oh,v64,(ptrTo PJ),sY,zo,v70,ru,zn,v75,v77,v79,Gt,Gu,v85,v87,Kk,Gw,v91,v93,MZ,M0,M1,Gx,(slot Ng 24),(slot Ng 25),(slot Ng 26),(slot Ng 27)] h)
def xm (a0 v45:Value) (Kp:List Value→Heap→Prop) (qb:List Value) (DF:Value) (h:Heap):Prop :=
 aH (some a0) h fun aaL h=>
 aH (aV none aaL h fun v _=>some v) h fun v117 h=>
 aH (fieldAddrB none 7 v117 h fun v _=>some v) h fun aaM h=>
 aH (load1 none aaM h fun v _=>some v) h fun aaN h=>
 aH (aV none aaN h fun v _=>some v) h fun aaO h=>
 aH (fieldAddrB none 0 aaO h fun v _=>some v) h fun aaP h=>
 aH (load1 none aaP h fun v _=>some v) h fun aaQ h=>
 aH (some a0) h fun aaR h=>
 aH (aV none aaR h fun v _=>some v) h fun v124 h=>
 aH (fieldAddrB none 0 v124 h fun v _=>some v) h fun aaS h=>
 aH (fieldAddrB none 2 aaS h fun v _=>some v) h fun aaT h=>
 aH (aD none 2 aaT h fun v _=>some v) h fun v127 h=>
 aH (some a0) h fun aaU h=>
 aH (aV none aaU h fun v _=>some v) h fun aaV h=>
 aH (fieldAddrB none 0 aaV h fun v _=>some v) h fun v130 h=>
 aH (fieldAddrB none 1 v130 h fun v _=>some v) h fun v131 h=>
 aH (load1 none v131 h fun v _=>some v) h fun aaW h=>
 aH (some v45) h fun aaX h=>
 CallW prog 213 [aaQ,v127,aaW,aaX] h fun aaY h=>
 aH (some aaY) h fun GF h=>
 aH (av none 0 GF h fun v _=>some v) h fun aaZ h=>
 aH (av none 1 GF h fun v _=>some v) h fun VN h=>
 aH (av none 2 GF h fun v _=>some v) h fun v138 h=>
 dM ((gz (av none 1 GF h fun v _=>some v) VN) && ((gz (av none 2 GF h fun v _=>some v) v138) && true)) (dM ((gz (av none 2 GF h fun v _=>some v) v138) && true) (Kp [(slot qb 19),DF,aaL,v117,aaM,aaN,aaO,aaP,aaQ,aaR,v124,aaS,aaT,v127,aaU,aaV,v130,v131,aaW,aaX,aaY,GF,aaZ,VN,v138,aaZ,undef,undef,undef,undef,undef,undef,undef,undef,undef,undef,undef,undef,undef,VN,v138] h))
def DX (a0 v19 v45:Value) (Kp:List Value→Heap→Prop) (qb:List Value) (DF:Value) (h:Heap):Prop :=
 aV False a0 h fun v139 h=>
 fieldAddrB False 7 v139 h fun aa0 h=>
 load1 False aa0 h fun v141 h=>
 aV False v141 h fun aa1 h=>
 fieldAddrB False 0 aa1 h fun v143 h=>
 load1 False v143 h fun aa2 h=>
 CallW prog 214 [aa2,v19,v45] h fun v145 h=>
 av False 0 v145 h fun v146 h=>
 av False 1 v145 h fun aa3 h=>
 Kp [(slot qb 19),DF,undef,undef,undef,undef,undef,undef,undef,undef,undef,undef,undef,undef,undef,undef,undef,undef,undef,undef,undef,undef,undef,undef,undef,v19,a0,v139,aa0,v141,aa1,v143,aa2,v19,v45,v145,v145,v146,aa3,v146,aa3] h
def DY (zq:List Value) (a0:Value) (h:Heap) (κ:KQ):Prop :=
 ay (slot zq 39) (
 aV False a0 h fun afu h=>
 fieldAddrB False 16 afu h fun v157 h=>
 aI False 1 v157 (.int .i64 1) h fun akQ h=>
 κ (Value.tuple (Array.mk [])) h) (
 CallW prog 215 [a0,(slot zq 25)] h fun v159 h=>
 κ (Value.tuple (Array.mk [])) h)
def DZ (zq:List Value) (a0:Value) (h:Heap) (κ:KQ):Prop :=
 au False prog .neq 26 true false (slot zq 40) (.int .i64 0) h fun v152 h=>
 ay v152 (
 aV False a0 h fun afv h=>
 fieldAddrB False 16 afv h fun v154 h=>
 aI False 1 v154 (.int .i64 6) h fun akR h=>
 κ (Value.tuple (Array.mk [])) h) (
 DY zq a0 h κ)
def xo (zq:List Value) (a0:Value) (h:Heap) (κ:KQ):Prop :=
 au False prog .eql 26 true false (slot zq 40) (.int .i64 8) h fun v148 h=>
 ay v148 (
 aV False a0 h fun afw h=>
 fieldAddrB False 16 afw h fun afx h=>
 aI False 1 afx (.int .i64 5) h fun akS h=>
 κ (Value.tuple (Array.mk [])) h) (
 DZ zq a0 h κ)
def xu (a0:Value) (qb:List Value) (v45 v19:Value) (h:Heap) (κ:KQ):Prop :=
 aV False a0 h fun v105 h=>
 fieldAddrB False 0 v105 h fun afy h=>
 fieldAddrB False 4 afy h fun v107 h=>
 load1 False v107 h fun U3 h=>
 CallW prog 212 [(slot qb 19),U3] h fun v109 h=>
 ay v109 (
 aV False a0 h fun U4 h=>
 fieldAddrB False 16 U4 h fun U5 h=>
 aI False 1 U5 (.int .i64 1) h fun ZU h=>
 κ (Value.tuple (Array.mk [])) h) (
 dD (fun Kp=>
 au False prog .eql 37 true false (slot qb 19) (.int .i64 0) h fun DF h=>
 ay DF (
 xm a0 v45 Kp qb DF h) (
 DX a0 v19 v45 Kp qb DF h)) fun zq h=>
 xo zq a0 h κ)
def oT (Ng:List Value) (oR qa a0 v45:Value) (N58:List Value→Heap→Prop) (qb:List Value) (v19:Value) (h:Heap) (κ:KQ):Prop :=
 au False prog .lss 3 false false (slot Ng 29) oR h fun v60 h=>
 ay v60 (
 dD (fun N61=>
 xk qa Ng a0 v45 N61 h) fun tK h=>
 au False prog .add 3 true false (slot Ng 29) (.int .i64 1) h fun Kn h=>
 N58 [v60,(slot tK 0),(slot tK 1),(slot tK 2),(slot tK 3),(slot tK 4),(slot tK 5),(slot tK 6),(slot tK 7),(slot tK 8),(slot tK 9),(slot tK 10),(slot tK 11),(slot tK 12),(slot tK 13),(slot tK 14),(slot tK 15),(slot tK 16),(slot tK 17),(slot tK 18),(slot tK 19),(slot tK 20),(slot tK 21),(slot tK 22),(slot tK 23),(slot tK 24),(slot tK 25),(slot tK 26),Kn,Kn] h) (
 xu a0 qb v45 v19 h κ)
def oU (a0:Value) (qb:List Value) (v19:Value) (h:Heap) (κ:KQ):Prop :=
 aV False a0 h fun v41 h=>
 fieldAddrB False 0 v41 h fun iD h=>
 fieldAddrB False 4 iD h fun gM h=>
 load1 False gM h fun v44 h=>
 CallW prog 208 [(slot qb 19),v44] h fun v45 h=>
 aH (some a0) h fun v46 h=>
 aH (aV none v46 h fun v _=>some v) h fun jQ h=>
 aH (fieldAddrB none 7 jQ h fun v _=>some v) h fun jH h=>
 aH (load1 none jH h fun v _=>some v) h fun v49 h=>
 aH (some a0) h fun v50 h=>
 aH (aV none v50 h fun v _=>some v) h fun v51 h=>
 aH (fieldAddrB none 0 v51 h fun v _=>some v) h fun nR h=>
 aH (fieldAddrB none 2 nR h fun v _=>some v) h fun v53 h=>
 aH (aD none 2 v53 h fun v _=>some v) h fun v54 h=>
 aH (some (.int .i64 0)) h fun v55 h=>
 CallW prog 209 [v49,v54] h fun qa h=>
 dM ((gz (some (.int .i64 0)) v55) && true) (aH (br none qa h fun v _=>some v) h fun oR h=>
 b6 [undef,undef,undef,undef,undef,undef,undef,undef,undef,undef,undef,undef,undef,undef,undef,undef,undef,undef,undef,undef,undef,undef,undef,undef,undef,undef,undef,undef,undef,v55] h fun Ng h N58=>
 oT Ng oR qa a0 v45 N58 qb v19 h κ)
theorem Nh (a0:Value) (h:Heap) (κ:KQ):aM prog 155 [a0] h κ = (
 aH (some a0) h fun v0 h=>
 aH (aV none v0 h fun v _=>some v) h fun v1 h=>
 aH (fieldAddrB none 7 v1 h fun v _=>some v) h fun v2 h=>
 aH (load1 none v2 h fun v _=>some v) h fun v3 h=>
 aH (aV none v3 h fun v _=>some v) h fun v4 h=>
 aH (fieldAddrB none 0 v4 h fun v _=>some v) h fun v5 h=>
 aH (load1 none v5 h fun v _=>some v) h fun v6 h=>
 aH (some a0) h fun v7 h=>
 aH (aV none v7 h fun v _=>some v) h fun v8 h=>
 aH (fieldAddrB none 0 v8 h fun v _=>some v) h fun v9 h=>
 aH (fieldAddrB none 2 v9 h fun v _=>some v) h fun v10 h=>
 aH (aD none 2 v10 h fun v _=>some v) h fun v11 h=>
 aH (some a0) h fun v12 h=>
 aH (aV none v12 h fun v _=>some v) h fun bI h=>
 aH (fieldAddrB none 0 bI h fun v _=>some v) h fun bO h=>
 aH (fieldAddrB none 1 bO h fun v _=>some v) h fun bN h=>
 aH (load1 none bN h fun v _=>some v) h fun v16 h=>
 CallW prog 207 [v6,v11,v16] h fun v17 h=>
 aH (some v17) h fun bR h=>
 aH (av none 0 bR h fun v _=>some v) h fun v19 h=>
 aH (av none 1 bR h fun v _=>some v) h fun v20 h=>
 dM ((gz (av none 1 bR h fun v _=>some v) v20) && true) (dD (fun Km=>
 ay v20 (
 DW a0 v19 Km v20 h) (
 Km [v20,undef,undef,undef,undef,undef,undef,undef,undef,undef,undef,undef,undef,undef,undef,undef,undef,undef,undef,(.int .i64 0)] h)) fun qb h=>
 oU a0 qb v19 h κ)) := by kernel_rfl
theorem VO (a0:Value) (h:Heap) (κ:KQ):aM prog 156 [a0] h κ = (
 aH (some a0) h fun v0 h=>
 aH (aV none v0 h fun v _=>some v) h fun v1 h=>
 aH (fieldAddrB none 7 v1 h fun v _=>some v) h fun v2 h=>
 aH (load1 none v2 h fun v _=>some v) h fun v3 h=>
 aH (aV none v3 h fun v _=>some v) h fun v4 h=>
 aH (fieldAddrB none 0 v4 h fun v _=>some v) h fun v5 h=>
 aH (load1 none v5 h fun v _=>some v) h fun v6 h=>
 aH (some a0) h fun v7 h=>
 aH (aV none v7 h fun v _=>some v) h fun v8 h=>
 aH (fieldAddrB none 0 v8 h fun v _=>some v) h fun v9 h=>
 aH (fieldAddrB none 2 v9 h fun v _=>some v) h fun v10 h=>
 aH (aD none 2 v10 h fun v _=>some v) h fun v11 h=>
 aH (some a0) h fun v12 h=>
 aH (aV none v12 h fun v _=>some v) h fun bI h=>
 aH (fieldAddrB none 0 bI h fun v _=>some v) h fun bO h=>
 aH (fieldAddrB none 1 bO h fun v _=>some v) h fun bN h=>
 aH (load1 none bN h fun v _=>some v) h fun v16 h=>
 CallW prog 207 [v6,v11,v16] h fun v17 h=>
 aH (some v17) h fun bR h=>
 aH (av none 0 bR h fun v _=>some v) h fun v19 h=>
 aH (av none 1 bR h fun v _=>some v) h fun v20 h=>
 dM ((gz (av none 1 bR h fun v _=>some v) v20) && true) (jv False .not v20 h fun v21 h=>
 ay v21 (
 aV False a0 h fun v22 h=>
 fieldAddrB False 16 v22 h fun v23 h=>
 aI False 1 v23 (.int .i64 6) h fun v24 h=>
 κ (Value.tuple (Array.mk [])) h) (
 CallW prog 211 [a0,v19] h fun v25 h=>
 aV False a0 h fun v26 h=>
 fieldAddrB False 16 v26 h fun v27 h=>
 aI False 1 v27 (.int .i64 1) h fun v28 h=>
 κ (Value.tuple (Array.mk [])) h))) := by kernel_rfl
def D0 (a0 a1 a2:Value) (h:Heap) (κ:KQ):Prop :=
 aV False a0 h fun v2 h=>
 fieldAddrB False 0 v2 h fun v3 h=>
 load1 False v3 h fun v4 h=>
 aq False 1 v4 a1 h fun v5 h=>
 load1 False v5 h fun v6 h=>
 au False prog .eql 176 true false v6 (.pointer none) h fun v7 h=>
 ag (ah v7 false) (fun K8=>
 K8 v6 h) h fun v9 h=>
 ag (ah v7 false) (fun oS=>
 aV False v9 h oS) h fun v11 h=>
 ag (ah v7 false) (fun mN=>
 fieldAddrB False 0 v11 h mN) h fun bI h=>
 ag (ah v7 false) (fun ry=>
 load1 False bI h ry) h fun bN h=>
 ag (ah v7 false) (fun uS=>
 uS a2 h) h fun v17 h=>
 ag (ah v7 false) (fun Bx=>
 au False prog .neq 3 false false bN v17 h Bx) h fun v19 h=>
 bf False v7 (.bool true) v19 h fun v20 h=>
 ay v20 (
 κ (.int .i64 6) h) (
 aV False a0 h fun v21 h=>
 fieldAddrB False 0 v21 h fun v22 h=>
 load1 False v22 h fun v23 h=>
 aq False 1 v23 a1 h fun v24 h=>
 aI False 1 v24 (.pointer none) h fun v25 h=>
 κ (.int .i64 0) h)
theorem VP (a0 a1 a2:Value) (h:Heap) (κ:KQ):aM prog 158 [a0,a1,a2] h κ = (
 CallW prog 100 [a0,a1,a2] h fun v0 h=>
 au False prog .neq 26 true false v0 (.int .i64 0) h fun v1 h=>
 ay v1 (
 κ v0 h) (
 D0 a0 a1 a2 h κ)) := by kernel_rfl
def D1 (a0:Value) (h:Heap) (κ:KQ):Prop :=
 aV False a0 h fun v10 h=>
 fieldAddrB False 17 v10 h fun v11 h=>
 aI False 1 v11 (.bool true) h fun v12 h=>
 aH (some a0) h fun bI h=>
 aH (aV none bI h fun v _=>some v) h fun bO h=>
 aH (fieldAddrB none 7 bO h fun v _=>some v) h fun bN h=>
 aH (load1 none bN h fun v _=>some v) h fun v16 h=>
 aH (aV none v16 h fun v _=>some v) h fun v17 h=>
 aH (fieldAddrB none 4 v17 h fun v _=>some v) h fun bR h=>
 aH (load1 none bR h fun v _=>some v) h fun v19 h=>
 aH (some a0) h fun v20 h=>
 aH (aV none v20 h fun v _=>some v) h fun v21 h=>
 aH (fieldAddrB none 8 v21 h fun v _=>some v) h fun v22 h=>
 aH (load1 none v22 h fun v _=>some v) h fun v23 h=>
 aH (aq none 1 v19 v23 h fun v _=>some v) h fun v24 h=>
 aI False 1 v24 (.pointer none) h fun v25 h=>
 κ (Value.tuple (Array.mk [])) h
def D2 (a0:Value) (h:Heap) (κ:KQ):Prop :=
 aV False a0 h fun v6 h=>
 fieldAddrB False 16 v6 h fun v7 h=>
 load1 False v7 h fun v8 h=>
 au False prog .neq 3 true false v8 (.int .i64 0) h fun v9 h=>
 ay v9 (
 D1 a0 h κ) (
 CallW prog 45 [a0,(.int .i64 5),(Value.func (.func 218) (Array.mk [a0]) (Array.mk []))] h fun v26 h=>
 κ (Value.tuple (Array.mk [])) h)
theorem VS (a0:Value) (h:Heap) (κ:KQ):aM prog 159 [a0] h κ = (
 aV False a0 h fun v0 h=>
 fieldAddrB False 18 v0 h fun v1 h=>
 load1 False v1 h fun v2 h=>
 br False v2 h fun v3 h=>
 au False prog .gtr 3 true false v3 (.int .i64 0) h fun v4 h=>
 ay v4 (
 CallW prog 45 [a0,(.int .i64 4),(Value.func (.func 217) (Array.mk [a0]) (Array.mk []))] h fun v5 h=>
 κ (Value.tuple (Array.mk [])) h) (
 D2 a0 h κ)) := by kernel_rfl
theorem VT (a0:Value) (h:Heap) (κ:KQ):aM prog 161 [a0] h κ = (
 ax False (Value.cells a0).toList 83 false fun o0 => aj False o0 h fun b1 h=>
 fieldAddrB False 2 (ptrTo b1) h fun v2 h=>
 load1 False v2 h fun v3 h=>
 au False prog .neq 37 true false v3 (.int .i64 0) h fun v4 h=>
 κ v4 h) := by kernel_rfl
def xw (v5 a2 a0:Value) (Tt:List Value→Heap→Prop) (l3:List Value) (h:Heap):Prop :=
 au False prog .add 3 true false v5 (.int .i64 1) h fun bO h=>
 au False prog .lss 3 false false bO a2 h fun bN h=>
 ag (ah bN true) (fun uS=>
 uS a0 h) h fun v17 h=>
 ag (ah bN true) (fun Bx=>
 Bx bO h) h fun v19 h=>
 ag (ah bN true) (fun DI=>
 DI v5 h) h fun v21 h=>
 ag (ah bN true) (fun K22=>
 CallI prog "Less" v17 [v19,v21] h K22) h fun v23 h=>
 bf False bN v23 (.bool false) h fun v24 h=>
 ay v24 (
 Tt [v5,bO,bO,bO,a2,bN,bN,v17,v19,v21,v23,v24,bO,bO] h) (
 Tt [v5,bO,bO,bO,a2,bN,bN,v17,v19,v21,v23,v24,(slot l3 24),v5] h)
def D3 (v5 a2 a0:Value) (l3:List Value) (N0:List Value→Heap→Prop) (v4 v6 v8 v10 v11:Value) (N2:List Value→Heap→Prop) (h:Heap):Prop :=
 dD (fun Tt=>
 xw v5 a2 a0 Tt l3 h) fun l13 h=>
 CallI prog "Less" a0 [(slot l13 13),(slot l3 36)] h fun v25 h=>
 jv False .not v25 h fun v26 h=>
 ay v26 (
 N0 [(slot l3 36),v4,v5,v5,v5,a2,v6,v6,v8,v10,v11,v5,(slot l13 0),(slot l13 1),(slot l13 2),(slot l13 3),(slot l13 4),(slot l13 5),(slot l13 6),(slot l13 7),(slot l13 8),(slot l13 9),(slot l13 10),(slot l13 11),(slot l13 12),(slot l13 13),a0,(slot l13 13),(slot l3 36),v25,v26,(slot l3 31),(slot l3 32),(slot l3 33),(slot l3 34),(slot l3 35),(slot l3 36)] h) (
 CallI prog "Swap" a0 [(slot l3 36),(slot l13 13)] h fun v27 h=>
 N2 [(slot l3 36),v4,v5,v5,v5,a2,v6,v6,v8,v10,v11,v5,(slot l13 0),(slot l13 1),(slot l13 2),(slot l13 3),(slot l13 4),(slot l13 5),(slot l13 6),(slot l13 7),(slot l13 8),(slot l13 9),(slot l13 10),(slot l13 11),(slot l13 12),(slot l13 13),a0,(slot l13 13),(slot l3 36),v25,v26,a0,(slot l3 36),(slot l13 13),v27,(slot l13 13),(slot l13 13)] h)
def xx (l3:List Value) (a2:Value) (N0:List Value→Heap→Prop) (a0:Value) (N2:List Value→Heap→Prop) (h:Heap):Prop :=
 au False prog .mul 3 true false (.int .i64 2) (slot l3 36) h fun v4 h=>
 au False prog .add 3 true false v4 (.int .i64 1) h fun v5 h=>
 au False prog .geq 3 false false v5 a2 h fun v6 h=>
 ag (ah v6 false) (fun K7=>
 K7 v5 h) h fun v8 h=>
 ag (ah v6 false) (fun K9=>
 au False prog .lss 3 true false v8 (.int .i64 0) h K9) h fun v10 h=>
 bf False v6 (.bool true) v10 h fun v11 h=>
 ay v11 (
 N0 [(slot l3 36),v4,v5,v5,v5,a2,v6,v6,v8,v10,v11,(slot l3 11),(slot l3 12),(slot l3 13),(slot l3 14),(slot l3 15),(slot l3 16),(slot l3 17),(slot l3 18),(slot l3 19),(slot l3 20),(slot l3 21),(slot l3 22),(slot l3 23),(slot l3 24),(slot l3 25),(slot l3 26),(slot l3 27),(slot l3 28),(slot l3 29),(slot l3 30),(slot l3 31),(slot l3 32),(slot l3 33),(slot l3 34),(slot l3 35),(slot l3 36)] h) (
 D3 v5 a2 a0 l3 N0 v4 v6 v8 v10 v11 N2 h)
theorem VU (a0 a1 a2:Value) (h:Heap) (κ:KQ):aM prog 172 [a0,a1,a2] h κ = (
 dD (fun N0=>
 b6 [undef,undef,undef,undef,undef,undef,undef,undef,undef,undef,undef,undef,undef,undef,undef,undef,undef,undef,undef,undef,undef,undef,undef,undef,undef,undef,undef,undef,undef,undef,undef,undef,undef,undef,undef,undef,a1] h fun l3 h N2=>
 xx l3 a2 N0 a0 N2 h) fun l1 h=>
 au False prog .gtr 3 false false (slot l1 36) a1 h fun v28 h=>
 κ v28 h) := by kernel_rfl
theorem VV (a0 a1:Value) (h:Heap) (κ:KQ):aM prog 173 [a0,a1] h κ = (
 CallW prog 225 [a0] h fun v0 h=>
 CallW prog 226 [v0,a1] h fun v1 h=>
 κ v0 h) := by kernel_rfl
theorem VW (a0:Value) (h:Heap) (κ:KQ):aM prog 174 [a0] h κ = (
 ax False (Value.cells a0).toList 218 false fun o0 => aj False o0 h fun b1 h=>
 κ (Value.func (.func 227) (Array.mk []) (Array.mk [(ptrTo b1)])) h) := by kernel_rfl
theorem VX (a0 a1:Value) (h:Heap) (κ:KQ):aM prog 191 [a0,a1] h κ = (
 ax False (Value.cells a0).toList 81 false fun o0 => aj False o0 h fun b1 h=>
 ax False [(.int .i64 0),(.int .i64 0),(.int .i64 0),(.int .i64 0),(.int .i64 0)] 83 false fun o2 => aj False o2 h fun b3 h=>
 aD False 4 (ptrTo b1) h fun v4 h=>
 bC False [(0,4)] [v4] [(.int .i64 0),(.int .i64 0),(.slice none 0 0),(.int .i64 0)] fun Yq=>
 CallW prog 236 [(Value.agg (Array.mk Yq)),a1] h fun v6 h=>
 au False prog .lss 3 true false v6 (.int .i64 0) h fun v7 h=>
 ay v7 (
 bC False [] [] [(.int .i64 0),(.int .i64 0),(.int .i64 0),(.int .i64 0),(.int .i64 0)] fun cs8=>
 aI False 5 (ptrTo b3) (Value.agg (Array.mk cs8)) h fun v9 h=>
 aD False 5 (ptrTo b3) h fun v10 _ => κ (Value.tuple (Array.mk [v10,(.bool false)])) h) (
 fieldAddrB False 2 (ptrTo b1) h fun v11 h=>
 load1 False v11 h fun v12 h=>
 aq False 5 v12 v6 h fun bI h=>
 aD False 5 bI h fun bO h=>
 aI False 5 (ptrTo b3) bO h fun bN h=>
 aD False 5 (ptrTo b3) h fun v16 _ => κ (Value.tuple (Array.mk [v16,(.bool true)])) h)) := by kernel_rfl
theorem VY (a0:Value) (h:Heap) (κ:KQ):aM prog 192 [a0] h κ = (
 ax False (Value.cells a0).toList 83 false fun o0 => aj False o0 h fun b1 h=>
 fieldAddrB False 4 (ptrTo b1) h fun v2 h=>
 load1 False v2 h fun v3 h=>
 au False prog .gtr 3 true false v3 (.int .i64 0) h fun v4 h=>
 κ v4 h) := by kernel_rfl
def xy (l1:List Value) (a0:Value) (N0:List Value→Heap→Prop) (h:Heap) (κ:KQ):Prop :=
 au False prog .sub 3 true false (slot l1 19) (.int .i64 1) h fun v2 h=>
 au False prog .quo 3 true false v2 (.int .i64 2) h fun v3 h=>
 au False prog .eql 3 false false v3 (slot l1 19) h fun v4 h=>
 ag (ah v4 false) (fun K5=>
 K5 a0 h) h fun v6 h=>
 ag (ah v4 false) (fun K7=>
 K7 (slot l1 19) h) h fun v8 h=>
 ag (ah v4 false) (fun K9=>
 K9 v3 h) h fun v10 h=>
 ag (ah v4 false) (fun K11=>
 CallI prog "Less" v6 [v8,v10] h K11) h fun v12 h=>
 ag (ah v4 false) (fun Vf=>
 jv False .not v12 h Vf) h fun bO h=>
 bf False v4 (.bool true) bO h fun bN h=>
 ay bN (
 κ (Value.tuple (Array.mk [])) h) (
 CallI prog "Swap" a0 [v3,(slot l1 19)] h fun v16 h=>
 N0 [(slot l1 19),v2,v3,v3,v3,(slot l1 19),v4,v4,v6,v8,v10,v12,bO,bN,a0,v3,(slot l1 19),v16,v3,v3] h)
theorem VZ (a0 a1:Value) (h:Heap) (κ:KQ):aM prog 199 [a0,a1] h κ = (
 b6 [undef,undef,undef,undef,undef,undef,undef,undef,undef,undef,undef,undef,undef,undef,undef,undef,undef,undef,undef,a1] h fun l1 h N0=>
 xy l1 a0 N0 h κ) := by kernel_rfl
def D4 (a0 a1:Value) (h:Heap) (κ:KQ):Prop :=
 aV False a0 h fun v1 h=>
 fieldAddrB False 6 v1 h fun v2 h=>
 load1 False v2 h fun v3 h=>
 dG False prog 3 (.int .i64 0) true v3 a1 h fun v4 h=>
 av False 0 v4 h fun v5 h=>
 av False 1 v4 h fun v6 h=>
 jv False .not v6 h fun v7 h=>
 ag (ah v7 false) (fun K8=>
 K8 a0 h) h fun v9 h=>
 ag (ah v7 false) (fun oS=>
 aV False v9 h oS) h fun v11 h=>
 ag (ah v7 false) (fun mN=>
 fieldAddrB False 4 v11 h mN) h fun bI h=>
 ag (ah v7 false) (fun ry=>
 load1 False bI h ry) h fun bN h=>
 ag (ah v7 false) (fun uS=>
 uS a1 h) h fun v17 h=>
 ag (ah v7 false) (fun Bx=>
 CallW prog 242 [bN,v17] h Bx) h fun v19 h=>
 ag (ah v7 false) (fun DI=>
 jv False .not v19 h DI) h fun v21 h=>
 bf False v7 (.bool true) v21 h fun v22 h=>
 ay v22 (
 κ (.pointer none) h) (
 aV False a0 h fun v23 h=>
 fieldAddrB False 5 v23 h fun v24 h=>
 load1 False v24 h fun v25 h=>
 aq False 1 v25 v5 h fun v26 h=>
 load1 False v26 h fun v27 h=>
 κ v27 h)
theorem V0 (a0 a1:Value) (h:Heap) (κ:KQ):aM prog 201 [a0,a1] h κ = (
 au False prog .eql 100 true false a0 (.pointer none) h fun v0 h=>
 ay v0 (
 κ (.pointer none) h) (
 D4 a0 a1 h κ)) := by kernel_rfl
def D5 (v4 a1:Value) (b1 b3:Nat) (h:Heap) (κ:KQ):Prop :=
 aV False v4 h fun v12 h=>
 aD False 4 v12 h fun bI h=>
 CallW prog 191 [bI,a1] h fun bO h=>
 av False 0 bO h fun bN h=>
 av False 1 bO h fun v16 h=>
 ax False [(.int .i64 0),(.int .i64 0),(.int .i64 0),(.int .i64 0),(.int .i64 0)] 83 false fun o17 => aj False o17 h fun b18 h=>
 aI False 5 (ptrTo b18) bN h fun v19 h=>
 aH (some v4) h fun v20 h=>
 aH (aV none v20 h fun v _=>some v) h fun v21 h=>
 aH (fieldAddrB none 0 v21 h fun v _=>some v) h fun v22 h=>
 aH (aD none 2 v22 h fun v _=>some v) h fun v23 h=>
 aH (aD none 5 (ptrTo b18) h fun v _=>some v) h fun v24 h=>
 aH (some v16) h fun v25 h=>
 aI False 2 (ptrTo b1) v23 h fun v26 h=>
 dM ((gz (aD none 5 (ptrTo b18) h fun v _=>some v) v24) && ((gz (some v16) v25) && true)) (aI False 5 (ptrTo b3) v24 h fun v27 h=>
 dM ((gz (some v16) v25) && true) (aD False 2 (ptrTo b1) h fun v28 _ => aD False 5 (ptrTo b3) h fun fG _ => κ (Value.tuple (Array.mk [v28,fG,v25])) h))
theorem Ni (a0 a1:Value) (h:Heap) (κ:KQ):aM prog 202 [a0,a1] h κ = (
 ax False [(.int .i64 0),(.int .i64 0)] 36 false fun o0 => aj False o0 h fun b1 h=>
 ax False [(.int .i64 0),(.int .i64 0),(.int .i64 0),(.int .i64 0),(.int .i64 0)] 83 false fun o2 => aj False o2 h fun b3 h=>
 CallW prog 243 [a0,a1] h fun v4 h=>
 au False prog .eql 228 true false v4 (.pointer none) h fun v5 h=>
 ay v5 (
 bC False [] [] [(.int .i64 0),(.int .i64 0)] fun Vd=>
 bC False [] [] [(.int .i64 0),(.int .i64 0),(.int .i64 0),(.int .i64 0),(.int .i64 0)] fun cs7=>
 aI False 2 (ptrTo b1) (Value.agg (Array.mk Vd)) h fun v8 h=>
 aI False 5 (ptrTo b3) (Value.agg (Array.mk cs7)) h fun v9 h=>
 aD False 2 (ptrTo b1) h fun v10 _ => aD False 5 (ptrTo b3) h fun v11 _ => κ (Value.tuple (Array.mk [v10,v11,(.bool false)])) h) (
 D5 v4 a1 b1 b3 h κ)) := by kernel_rfl
theorem V1 (a0:Value) (h:Heap) (κ:KQ):aM prog 203 [a0] h κ = (
 au False prog .eql 100 true false a0 (.pointer none) h fun v0 h=>
 ay v0 (
 κ (.int .i64 1) h) (
 κ (.int .i64 5) h)) := by kernel_rfl
def D6 (a0 v3:Value) (b1:Nat) (a2:Value) (h:Heap) (κ:KQ):Prop :=
 aH (some a0) h fun v5 h=>
 aH (aV none v5 h fun v _=>some v) h fun v6 h=>
 aH (fieldAddrB none 5 v6 h fun v _=>some v) h fun v7 h=>
 aH (load1 none v7 h fun v _=>some v) h fun v8 h=>
 aH (some v3) h fun v9 h=>
 aH (aq none 1 v8 v9 h fun v _=>some v) h fun v10 h=>
 aH (load1 none v10 h fun v _=>some v) h fun v11 h=>
 aH (aD none 2 (ptrTo b1) h fun v _=>some v) h fun v12 h=>
 aH (some a2) h fun bI h=>
 CallW prog 250 [v11,v12,bI] h fun bO h=>
 aH (av none 0 bO h fun v _=>some v) h fun bN h=>
 aH (av none 1 bO h fun v _=>some v) h fun v16 h=>
 κ (Value.tuple (Array.mk [bN,v16])) h
theorem V2 (a0 a1 a2:Value) (h:Heap) (κ:KQ):aM prog 207 [a0,a1,a2] h κ = (
 ax False (Value.cells a1).toList 36 false fun o0 => aj False o0 h fun b1 h=>
 aD False 2 (ptrTo b1) h fun v2 h=>
 CallW prog 44 [a0,v2] h fun v3 h=>
 au False prog .lss 3 true false v3 (.int .i64 0) h fun v4 h=>
 ay v4 (
 κ (Value.tuple (Array.mk [(.int .i64 0),(.bool false)])) h) (
 D6 a0 v3 b1 a2 h κ)) := by kernel_rfl
def D7 (v5:Value) (l8:List Value) (b1:Nat) (N7:List Value→Heap→Prop) (v9:Value) (h:Heap) (κ:KQ):Prop :=
 aq False 4 v5 (slot l8 12) h fun v10 h=>
 aD False 4 v10 h fun v11 h=>
 ax False [(.int .i64 0),(.int .i64 0),(.slice none 0 0),(.int .i64 0)] 81 false fun U0 => aj False U0 h fun IA h=>
 aI False 4 (ptrTo IA) v11 h fun bO h=>
 fieldAddrB False 0 (ptrTo IA) h fun bN h=>
 aD False 2 bN h fun v16 h=>
 aD False 2 (ptrTo b1) h fun v17 h=>
 au False prog .eql 36 false false v16 v17 h fun bR h=>
 ay bR (
 fieldAddrB False 2 (ptrTo IA) h fun v19 h=>
 load1 False v19 h fun v20 h=>
 κ v20 h) (
 au False prog .add 3 true false (slot l8 12) (.int .i64 1) h fun v21 h=>
 N7 [v9,v10,v11,(ptrTo IA),bN,v16,v17,bR,(slot l8 8),(slot l8 9),(slot l8 10),v21,v21] h)
theorem V3 (a0 a1:Value) (h:Heap) (κ:KQ):aM prog 209 [a0,a1] h κ = (
 ax False (Value.cells a1).toList 36 false fun o0 => aj False o0 h fun b1 h=>
 aV False a0 h fun v2 h=>
 fieldAddrB False 0 v2 h fun v3 h=>
 load1 False v3 h fun v4 h=>
 CallW prog 65 [v4] h fun v5 h=>
 br False v5 h fun v6 h=>
 b6 [undef,undef,undef,undef,undef,undef,undef,undef,undef,undef,(.slice none 0 0),undef,(.int .i64 0)] h fun l8 h N7=>
 au False prog .lss 3 false false (slot l8 12) v6 h fun v9 h=>
 ay v9 (
 D7 v5 l8 b1 N7 v9 h κ) (
 κ (.slice none 0 0) h)) := by kernel_rfl
theorem V4 (a0 a1:Value) (h:Heap) (κ:KQ):aM prog 211 [a0,a1] h κ = (
 aV False a0 h fun v0 h=>
 fieldAddrB False 7 v0 h fun v1 h=>
 load1 False v1 h fun v2 h=>
 aV False v2 h fun v3 h=>
 fieldAddrB False 0 v3 h fun v4 h=>
 load1 False v4 h fun v5 h=>
 CallW prog 253 [v5,a1] h fun v6 h=>
 av False 0 v6 h fun v7 h=>
 av False 1 v6 h fun v8 h=>
 aV False a0 h fun v9 h=>
 fieldAddrB False 18 v9 h fun v10 h=>
 load1 False v10 h fun v11 h=>
 bu False 3 1 [(.int .i64 0)] false v11 v7 h fun v12 h=>
 aV False a0 h fun bI h=>
 fieldAddrB False 18 bI h fun bO h=>
 aI False 1 bO v12 h fun bN h=>
 κ (Value.tuple (Array.mk [])) h) := by kernel_rfl
def oV (v20 a0 bR v4:Value) (Km:List Value→Heap→Prop) (h:Heap):Prop :=
 au False prog .eql 26 true false v20 (.int .i64 0) h fun v23 h=>
 ay v23 (
 aV False a0 h fun v24 h=>
 fieldAddrB False 6 v24 h fun v25 h=>
 load1 False v25 h fun v26 h=>
 cI False prog 3 v26 bR v4 h fun v27 h=>
 Km [v20,v23,a0,v24,v25,v26,bR,v4] h) (
 Km [v20,v23,undef,undef,undef,undef,undef,undef] h)
def D8 (a0 v4:Value) (b1:Nat) (a2 a3:Value) (h:Heap) (κ:KQ):Prop :=
 aH (some a0) h fun v6 h=>
 aH (aV none v6 h fun v _=>some v) h fun v7 h=>
 aH (fieldAddrB none 5 v7 h fun v _=>some v) h fun v8 h=>
 aH (load1 none v8 h fun v _=>some v) h fun v9 h=>
 aH (some v4) h fun v10 h=>
 aH (aq none 1 v9 v10 h fun v _=>some v) h fun v11 h=>
 aH (load1 none v11 h fun v _=>some v) h fun v12 h=>
 aH (aD none 2 (ptrTo b1) h fun v _=>some v) h fun bI h=>
 aH (some a2) h fun bO h=>
 aH (some a3) h fun bN h=>
 CallW prog 255 [v12,bI,bO,bN] h fun v16 h=>
 aH (some v16) h fun v17 h=>
 aH (av none 0 v17 h fun v _=>some v) h fun bR h=>
 aH (av none 1 v17 h fun v _=>some v) h fun v19 h=>
 aH (av none 2 v17 h fun v _=>some v) h fun v20 h=>
 dM ((gz (av none 1 v17 h fun v _=>some v) v19) && ((gz (av none 2 v17 h fun v _=>some v) v20) && true)) (dM ((gz (av none 2 v17 h fun v _=>some v) v20) && true) (dD (fun Km=>
 oV v20 a0 bR v4 Km h) fun qb h=>
 κ (Value.tuple (Array.mk [bR,v19,v20])) h))
theorem V5 (a0 a1 a2 a3:Value) (h:Heap) (κ:KQ):aM prog 213 [a0,a1,a2,a3] h κ = (
 ax False (Value.cells a1).toList 36 false fun o0 => aj False o0 h fun b1 h=>
 au False prog .eql 100 true false a0 (.pointer none) h fun v2 h=>
 ay v2 (
 κ (Value.tuple (Array.mk [(.int .i64 0),(.bool false),(.int .i64 1)])) h) (
 aD False 2 (ptrTo b1) h fun v3 h=>
 CallW prog 44 [a0,v3] h fun v4 h=>
 au False prog .lss 3 true false v4 (.int .i64 0) h fun v5 h=>
 ay v5 (
 κ (Value.tuple (Array.mk [(.int .i64 0),(.bool false),(.int .i64 2)])) h) (
 D8 a0 v4 b1 a2 a3 h κ))) := by kernel_rfl
def xz (v0 a0 a1 a2:Value) (h:Heap) (κ:KQ):Prop :=
 au False prog .eql 182 true false v0 (.pointer none) h fun v17 h=>
 ay v17 (
 CallW prog 203 [a0] h fun bR h=>
 κ (Value.tuple (Array.mk [(.bool false),bR])) h) (
 CallW prog 256 [v0,a1,a2] h fun v19 h=>
 av False 0 v19 h fun v20 h=>
 av False 1 v19 h fun v21 h=>
 κ (Value.tuple (Array.mk [v20,v21])) h)
theorem V6 (a0 a1 a2:Value) (h:Heap) (κ:KQ):aM prog 214 [a0,a1,a2] h κ = (
 CallW prog 201 [a0,a1] h fun v0 h=>
 au False prog .neq 100 true false a0 (.pointer none) h fun v1 h=>
 ag (ah v1 true) (fun K2=>
 K2 a2 h) h fun v3 h=>
 ag (ah v1 true) (fun K4=>
 au False prog .eql 37 true false v3 (.int .i64 0) h K4) h fun v5 h=>
 ag (ah v1 true) (fun K6=>
 K6 v5 h) h fun v7 h=>
 ag (ah v7 false) (fun K8=>
 K8 a2 h) h fun v9 h=>
 ag (ah v7 false) (fun oS=>
 CallW prog 73 [v9] h oS) h fun v11 h=>
 ag (ah v7 false) (fun mN=>
 jv False .not v11 h mN) h fun bI h=>
 ag (ah v1 true) (fun ry=>
 bf False v7 (.bool true) bI h ry) h fun bN h=>
 bf False v1 bN (.bool false) h fun v16 h=>
 ay v16 (
 κ (Value.tuple (Array.mk [(.bool false),(.int .i64 2)])) h) (
 xz v0 a0 a1 a2 h κ)) := by kernel_rfl
theorem V7 (a0:Value) (h:Heap) (κ:KQ):aM prog 225 [a0] h κ = (
 CallW prog 262 [(.slice none 0 0),a0] h fun v0 h=>
 κ v0 h) := by kernel_rfl
theorem V8 (a0 a1:Value) (h:Heap) (κ:KQ):aM prog 226 [a0,a1] h κ = (
 br False a0 h fun v0 h=>
 jb False .u64 v0 h fun v1 h=>
 CallW prog 132 [v1] h fun v2 h=>
 CallW prog 263 [a0,(.int .i64 0),v0,v2,a1] h fun v3 h=>
 κ (Value.tuple (Array.mk [])) h) := by kernel_rfl
theorem V9 (a0 a1:Value) (h:Heap) (κ:KQ):aM prog 236 [a0,a1] h κ = (
 ax False (Value.cells a0).toList 305 false fun o0 => aj False o0 h fun b1 h=>
 ax False (Value.cells a1).toList 3 false fun o2 => aj False o2 h fun b3 h=>
 fieldAddrB False 0 (ptrTo b1) h fun v4 h=>
 fieldAddrB False 2 v4 h fun v5 h=>
 load1 False v5 h fun v6 h=>
 CallW prog 268 [v6,(Value.func (.func 269) (Array.mk []) (Array.mk [(ptrTo b3)]))] h fun v7 h=>
 κ v7 h) := by kernel_rfl
theorem V_ (a0:Value) (h:Heap) (κ:KQ):aM prog 237 [a0] h κ = (
 ax False (Value.cells a0).toList 83 false fun o0 => aj False o0 h fun b1 h=>
 fieldAddrB False 2 (ptrTo b1) h fun v2 h=>
 load1 False v2 h fun v3 h=>
 au False prog .neq 37 true false v3 (.int .i64 0) h fun v4 h=>
 κ v4 h) := by kernel_rfl
theorem Wa (a0:Value) (h:Heap) (κ:KQ):aM prog 238 [a0] h κ = (
 ax False (Value.cells a0).toList 83 false fun o0 => aj False o0 h fun b1 h=>
 aD False 5 (ptrTo b1) h fun v2 h=>
 CallW prog 237 [v2] h fun v3 h=>
 ag (ah v3 true) (fun K4=>
 aD False 5 (ptrTo b1) h K4) h fun v5 h=>
 ag (ah v3 true) (fun K6=>
 CallW prog 192 [v5] h K6) h fun v7 h=>
 bf False v3 v7 (.bool false) h fun v8 h=>
 κ v8 h) := by kernel_rfl
theorem Wb (a0 a1:Value) (h:Heap) (κ:KQ):aM prog 242 [a0,a1] h κ = (
 au False prog .neq 144 true false a0 (.pointer none) h fun v0 h=>
 ag (ah v0 true) (fun K1=>
 K1 a1 h) h fun v2 h=>
 ag (ah v0 true) (fun K3=>
 au False prog .geq 3 true false v2 (.int .i64 0) h K3) h fun v4 h=>
 bf False v0 v4 (.bool false) h fun v5 h=>
 ag (ah v5 true) (fun K6=>
 K6 a1 h) h fun v7 h=>
 ag (ah v5 true) (fun K8=>
 K8 a0 h) h fun v9 h=>
 ag (ah v5 true) (fun oS=>
 aV False v9 h oS) h fun v11 h=>
 ag (ah v5 true) (fun mN=>
 fieldAddrB False 1 v11 h mN) h fun bI h=>
 ag (ah v5 true) (fun ry=>
 load1 False bI h ry) h fun bN h=>
 ag (ah v5 true) (fun uS=>
 br False bN h uS) h fun v17 h=>
 ag (ah v5 true) (fun Bx=>
 au False prog .lss 3 false false v7 v17 h Bx) h fun v19 h=>
 bf False v5 v19 (.bool false) h fun v20 h=>
 ag (ah v20 true) (fun DD=>
 DD a0 h) h fun v22 h=>
 ag (ah v20 true) (fun DE=>
 aV False v22 h DE) h fun v24 h=>
 ag (ah v20 true) (fun Nb=>
 fieldAddrB False 1 v24 h Nb) h fun v26 h=>
 ag (ah v20 true) (fun Gy=>
 load1 False v26 h Gy) h fun v28 h=>
 ag (ah v20 true) (fun Gz=>
 Gz a1 h) h fun v30 h=>
 ag (ah v20 true) (fun Gv=>
 aq False 1 v28 v30 h Gv) h fun v32 h=>
 ag (ah v20 true) (fun Kl=>
 load1 False v32 h Kl) h fun gY h=>
 bf False v20 gY (.bool false) h fun v35 h=>
 κ v35 h) := by kernel_rfl
def D9 (v4 a1:Value) (N5:List Value→Heap→Prop) (v7 v8:Value) (l6:List Value) (h:Heap) (κ:KQ):Prop :=
 ng False v4 h fun v9 h=>
 av False 1 v9 h fun v10 h=>
 aV False v10 h fun v11 h=>
 aD False 4 v11 h fun v12 h=>
 CallW prog 191 [v12,a1] h fun bI h=>
 av False 0 bI h fun bO h=>
 av False 1 bI h fun bN h=>
 ax False [(.int .i64 0),(.int .i64 0),(.int .i64 0),(.int .i64 0),(.int .i64 0)] 83 false fun o16 => aj False o16 h fun b17 h=>
 aI False 5 (ptrTo b17) bO h fun bR h=>
 ay bN (
 κ v10 h) (
 N5 [v7,v8,v9,v10,v10,v10,v11,v12,a1,bI,bI,bO,bN,(ptrTo b17),bN,bN,(slot l6 16),(slot l6 17)] h)
def D_ (a0 a1:Value) (h:Heap) (κ:KQ):Prop :=
 aV False a0 h fun v1 h=>
 fieldAddrB False 2 v1 h fun v2 h=>
 load1 False v2 h fun v3 h=>
 m_ False v3 h fun v4 h=>
 b6 [undef,undef,undef,undef,undef,undef,undef,undef,undef,undef,undef,undef,undef,undef,undef,undef,undef,(.pointer none)] h fun l6 h N5=>
 qz False And v4 h fun v7 h=>
 av False 0 v7 h fun v8 h=>
 ay v8 (
 D9 v4 a1 N5 v7 v8 l6 h κ) (
 κ (.pointer none) h)
theorem Nj (a0 a1:Value) (h:Heap) (κ:KQ):aM prog 243 [a0,a1] h κ = (
 au False prog .eql 182 true false a0 (.pointer none) h fun v0 h=>
 ay v0 (
 κ (.pointer none) h) (
 D_ a0 a1 h κ)) := by kernel_rfl
theorem Wc (a0:Value) (h:Heap) (κ:KQ):aM prog 244 [a0] h κ = (
 au False prog .eql 182 true false a0 (.pointer none) h fun v0 h=>
 ay v0 (
 κ (.int .i64 1) h) (
 κ (.int .i64 5) h)) := by kernel_rfl
def Ea (a0 a1:Value) (h:Heap) (κ:KQ):Prop :=
 aV False a0 h fun v3 h=>
 fieldAddrB False 1 v3 h fun v4 h=>
 load1 False v4 h fun v5 h=>
 aq False 1 v5 a1 h fun v6 h=>
 aI False 1 v6 (.bool false) h fun v7 h=>
 aV False a0 h fun v8 h=>
 fieldAddrB False 0 v8 h fun v9 h=>
 CallW prog 146 [(Value.iface 240 v9),(Value.iface 3 a1)] h fun v10 h=>
 κ (.int .i64 0) h
theorem We (a0 a1:Value) (h:Heap) (κ:KQ):aM prog 246 [a0,a1] h κ = (
 au False prog .eql 144 true false a0 (.pointer none) h fun v0 h=>
 ay v0 (
 κ (.int .i64 1) h) (
 CallW prog 242 [a0,a1] h fun v1 h=>
 jv False .not v1 h fun v2 h=>
 ay v2 (
 κ (.int .i64 5) h) (
 Ea a0 a1 h κ))) := by kernel_rfl
def Eb (a0:Value) (b1:Nat) (N7:List Value→Heap→Prop) (v9 v10 v11 v12:Value) (h:Heap):Prop :=
 aH (some a0) h fun bI h=>
 aH (aV none bI h fun v _=>some v) h fun bO h=>
 aH (fieldAddrB none 2 bO h fun v _=>some v) h fun bN h=>
 aH (load1 none bN h fun v _=>some v) h fun v16 h=>
 aH (fieldAddrB none 0 (ptrTo b1) h fun v _=>some v) h fun v17 h=>
 aH (aD none 2 v17 h fun v _=>some v) h fun bR h=>
 lq False prog 36 v16 bR h fun v19 h=>
 N7 [v9,v10,v11,v12,bI,bO,bN,v16,v17,bR,undef,undef,undef,undef,undef,undef] h
def Ec (a0:Value) (b1:Nat) (N7:List Value→Heap→Prop) (v9 v10 v11 v12:Value) (h:Heap):Prop :=
 aH (some a0) h fun v20 h=>
 aH (aV none v20 h fun v _=>some v) h fun v21 h=>
 aH (fieldAddrB none 2 v21 h fun v _=>some v) h fun v22 h=>
 aH (load1 none v22 h fun v _=>some v) h fun v23 h=>
 aH (fieldAddrB none 0 (ptrTo b1) h fun v _=>some v) h fun v24 h=>
 aH (aD none 2 v24 h fun v _=>some v) h fun v25 h=>
 cI False prog 36 v23 v25 (ptrTo b1) h fun v26 h=>
 N7 [v9,v10,v11,v12,undef,undef,undef,undef,undef,undef,v20,v21,v22,v23,v24,v25] h
def xA (b1:Nat) (a0:Value) (N7:List Value→Heap→Prop) (h:Heap):Prop :=
 fieldAddrB False 2 (ptrTo b1) h fun v9 h=>
 load1 False v9 h fun v10 h=>
 br False v10 h fun v11 h=>
 au False prog .eql 3 true false v11 (.int .i64 0) h fun v12 h=>
 ay v12 (
 Eb a0 b1 N7 v9 v10 v11 v12 h) (
 Ec a0 b1 N7 v9 v10 v11 v12 h)
theorem Wf (a0 a1:Value) (h:Heap) (κ:KQ):aM prog 247 [a0,a1] h κ = (
 ax False (Value.cells a1).toList 81 false fun o0 => aj False o0 h fun b1 h=>
 aD False 4 (ptrTo b1) h fun v2 h=>
 CallW prog 289 [v2] h fun v3 h=>
 av False 0 v3 h fun v4 h=>
 av False 1 v3 h fun v5 h=>
 aI False 4 (ptrTo b1) v4 h fun v6 h=>
 dD (fun N7=>
 xA b1 a0 N7 h) fun l8 h=>
 κ v5 h) := by kernel_rfl
def Ed (v12 bR:Value) (h:Heap) (κ:KQ):Prop :=
 aV False v12 h fun v20 h=>
 fieldAddrB False 2 v20 h fun v21 h=>
 load1 False v21 h fun v22 h=>
 aq False 5 v22 bR h fun v23 h=>
 fieldAddrB False 0 v23 h fun v24 h=>
 load1 False v24 h fun v25 h=>
 κ (Value.tuple (Array.mk [v25,(.bool true)])) h
def Ee (v12:Value) (b3:Nat) (h:Heap) (κ:KQ):Prop :=
 aV False v12 h fun bN h=>
 fieldAddrB False 2 bN h fun v16 h=>
 load1 False v16 h fun v17 h=>
 CallW prog 268 [v17,(Value.func (.func 290) (Array.mk []) (Array.mk [(ptrTo b3)]))] h fun bR h=>
 au False prog .lss 3 true false bR (.int .i64 0) h fun v19 h=>
 ay v19 (
 κ (Value.tuple (Array.mk [(.int .i64 0),(.bool false)])) h) (
 Ed v12 bR h κ)
def xB (a0:Value) (b1 b3:Nat) (h:Heap) (κ:KQ):Prop :=
 aH (some a0) h fun v5 h=>
 aH (aV none v5 h fun v _=>some v) h fun v6 h=>
 aH (fieldAddrB none 2 v6 h fun v _=>some v) h fun v7 h=>
 aH (load1 none v7 h fun v _=>some v) h fun v8 h=>
 aH (aD none 2 (ptrTo b1) h fun v _=>some v) h fun v9 h=>
 aH (dG none prog 36 (.pointer none) true v8 v9 h fun v _=>some v) h fun v10 h=>
 aH (some v10) h fun v11 h=>
 aH (av none 0 v11 h fun v _=>some v) h fun v12 h=>
 aH (av none 1 v11 h fun v _=>some v) h fun bI h=>
 dM ((gz (av none 1 v11 h fun v _=>some v) bI) && true) (jv False .not bI h fun bO h=>
 ay bO (
 κ (Value.tuple (Array.mk [(.int .i64 0),(.bool false)])) h) (
 Ee v12 b3 h κ))
theorem Wg (a0 a1 a2:Value) (h:Heap) (κ:KQ):aM prog 250 [a0,a1,a2] h κ = (
 ax False (Value.cells a1).toList 36 false fun o0 => aj False o0 h fun b1 h=>
 ax False (Value.cells a2).toList 3 false fun o2 => aj False o2 h fun b3 h=>
 au False prog .eql 182 true false a0 (.pointer none) h fun v4 h=>
 ay v4 (
 κ (Value.tuple (Array.mk [(.int .i64 0),(.bool false)])) h) (
 xB a0 b1 b3 h κ)) := by kernel_rfl
theorem Wh (a0 a1:Value) (h:Heap) (κ:KQ):aM prog 253 [a0,a1] h κ = (
 CallW prog 201 [a0,a1] h fun v0 h=>
 au False prog .eql 182 true false v0 (.pointer none) h fun v1 h=>
 ay v1 (
 CallW prog 203 [a0] h fun v2 h=>
 κ (Value.tuple (Array.mk [(.slice none 0 0),v2])) h) (
 CallW prog 291 [v0,a1] h fun v3 h=>
 av False 0 v3 h fun v4 h=>
 av False 1 v3 h fun v5 h=>
 κ (Value.tuple (Array.mk [v4,v5])) h)) := by kernel_rfl
def xC (a0:Value) (b1:Nat) (N24:List Value→Heap→Prop) (v23 v26:Value) (h:Heap) (κ:KQ):Prop :=
 aH (some a0) h fun v27 h=>
 aH (aV none v27 h fun v _=>some v) h fun v28 h=>
 aH (fieldAddrB none 2 v28 h fun v _=>some v) h fun fG h=>
 aH (load1 none fG h fun v _=>some v) h fun v30 h=>
 aH (mZ none v30 h fun v _=>some v) h fun v31 h=>
 aH (some a0) h fun v32 h=>
 aH (aV none v32 h fun v _=>some v) h fun v33 h=>
 aH (fieldAddrB none 0 v33 h fun v _=>some v) h fun gY h=>
 aH (load1 none gY h fun v _=>some v) h fun v35 h=>
 aH (au none prog .geq 3 false false v31 v35 h fun v _=>some v) h fun iP h=>
 ay iP (
 κ (Value.tuple (Array.mk [(.int .i64 0),(.bool false),(.int .i64 8)])) h) (
 aD False 2 (ptrTo b1) h fun v37 h=>
 bC False [(0,2)] [v37] [(.int .i64 0),(.int .i64 0),(.slice none 0 0),(.int .i64 0)] fun aa4=>
 ax False (Value.cells (Value.agg (Array.mk aa4))).toList 81 false fun o39 => aj False o39 h fun UO h=>
 N24 [v23,v26,v27,v28,fG,v30,v31,v32,v33,gY,v35,iP,(.int .i64 0),(.bool false),(.int .i64 0),v37,(Value.agg (Array.mk aa4)),(ptrTo UO),(ptrTo UO)] h)
def Ef (l25:List Value) (v45 a2 a3 a0:Value) (h:Heap) (κ:KQ):Prop :=
 aV False (slot l25 18) h fun jH h=>
 aD False 4 jH h fun v49 h=>
 CallW prog 293 [v49,v45,a2,a3] h fun v50 h=>
 av False 0 v50 h fun v51 h=>
 av False 1 v50 h fun nR h=>
 av False 2 v50 h fun v53 h=>
 ax False [(.int .i64 0),(.int .i64 0),(.slice none 0 0),(.int .i64 0)] 81 false fun o54 => aj False o54 h fun b55 h=>
 aI False 4 (ptrTo b55) v51 h fun qa h=>
 aD False 4 (ptrTo b55) h fun oR h=>
 CallW prog 247 [a0,oR] h fun v58 h=>
 κ (Value.tuple (Array.mk [v45,nR,(.int .i64 0)])) h
def xD (a0:Value) (l25:List Value) (a2 a3:Value) (h:Heap) (κ:KQ):Prop :=
 aV False a0 h fun v41 h=>
 fieldAddrB False 1 v41 h fun iD h=>
 load1 False iD h fun gM h=>
 CallW prog 292 [gM] h fun v44 h=>
 av False 0 v44 h fun v45 h=>
 av False 1 v44 h fun v46 h=>
 au False prog .neq 26 true false v46 (.int .i64 0) h fun jQ h=>
 ay jQ (
 κ (Value.tuple (Array.mk [(.int .i64 0),(.bool false),(.int .i64 8)])) h) (
 Ef l25 v45 a2 a3 a0 h κ)
def xE (a0:Value) (b1:Nat) (a2 a3:Value) (h:Heap) (κ:KQ):Prop :=
 aH (some a0) h fun bN h=>
 aH (aV none bN h fun v _=>some v) h fun v16 h=>
 aH (fieldAddrB none 2 v16 h fun v _=>some v) h fun v17 h=>
 aH (load1 none v17 h fun v _=>some v) h fun bR h=>
 aH (aD none 2 (ptrTo b1) h fun v _=>some v) h fun v19 h=>
 aH (dG none prog 36 (.pointer none) true bR v19 h fun v _=>some v) h fun v20 h=>
 aH (some v20) h fun v21 h=>
 aH (av none 0 v21 h fun v _=>some v) h fun v22 h=>
 aH (av none 1 v21 h fun v _=>some v) h fun v23 h=>
 dM ((gz (av none 1 v21 h fun v _=>some v) v23) && true) (dD (fun N24=>
 jv False .not v23 h fun v26 h=>
 ay v26 (
 xC a0 b1 N24 v23 v26 h κ) (
 N24 [v23,v26,undef,undef,undef,undef,undef,undef,undef,undef,undef,undef,(.int .i64 0),(.bool false),(.int .i64 0),undef,undef,undef,v22] h)) fun l25 h=>
 xD a0 l25 a2 a3 h κ)
def Eg (b1:Nat) (a0 a2 a3:Value) (h:Heap) (κ:KQ):Prop :=
 aD False 2 (ptrTo b1) h fun v11 h=>
 CallW prog 250 [a0,v11,a2] h fun v12 h=>
 av False 0 v12 h fun bI h=>
 av False 1 v12 h fun bO h=>
 ay bO (
 κ (Value.tuple (Array.mk [(.int .i64 0),(.bool false),(.int .i64 4)])) h) (
 xE a0 b1 a2 a3 h κ)
def Eh (a3:Value) (b1:Nat) (a0 a2:Value) (h:Heap) (κ:KQ):Prop :=
 au False prog .eql 37 true false a3 (.int .i64 0) h fun v3 h=>
 ag (ah v3 false) (fun K4=>
 K4 a3 h) h fun v5 h=>
 ag (ah v3 false) (fun K6=>
 CallW prog 73 [v5] h K6) h fun v7 h=>
 ag (ah v3 false) (fun K8=>
 jv False .not v7 h K8) h fun v9 h=>
 bf False v3 (.bool true) v9 h fun v10 h=>
 ay v10 (
 κ (Value.tuple (Array.mk [(.int .i64 0),(.bool false),(.int .i64 2)])) h) (
 Eg b1 a0 a2 a3 h κ)
theorem Wi (a0 a1 a2 a3:Value) (h:Heap) (κ:KQ):aM prog 255 [a0,a1,a2,a3] h κ = (
 ax False (Value.cells a1).toList 36 false fun o0 => aj False o0 h fun b1 h=>
 au False prog .eql 182 true false a0 (.pointer none) h fun v2 h=>
 ay v2 (
 κ (Value.tuple (Array.mk [(.int .i64 0),(.bool false),(.int .i64 1)])) h) (
 Eh a3 b1 a0 a2 h κ)) := by kernel_rfl
def xF (l3:List Value) (a1 a2 a0:Value) (h:Heap) (κ:KQ):Prop :=
 aV False (slot l3 4) h fun v8 h=>
 aD False 4 v8 h fun v9 h=>
 CallW prog 294 [v9,a1,a2] h fun v10 h=>
 av False 0 v10 h fun v11 h=>
 av False 1 v10 h fun v12 h=>
 av False 2 v10 h fun bI h=>
 ax False [(.int .i64 0),(.int .i64 0),(.slice none 0 0),(.int .i64 0)] 81 false fun Vi => aj False Vi h fun Jh h=>
 aI False 4 (ptrTo Jh) v11 h fun v16 h=>
 au False prog .neq 26 true false bI (.int .i64 0) h fun v17 h=>
 ay v17 (
 κ (Value.tuple (Array.mk [(.bool false),bI])) h) (
 aD False 4 (ptrTo Jh) h fun bR h=>
 CallW prog 247 [a0,bR] h fun v19 h=>
 κ (Value.tuple (Array.mk [v12,(.int .i64 0)])) h)
def Ei (a0 a1 a2:Value) (h:Heap) (κ:KQ):Prop :=
 CallW prog 243 [a0,a1] h fun v1 h=>
 dD (fun N2=>
 au False prog .eql 228 true false v1 (.pointer none) h fun v4 h=>
 ay v4 (
 bC False [] [] [(.int .i64 0),(.int .i64 0),(.slice none 0 0),(.int .i64 0)] fun Yq=>
 ax False (Value.cells (Value.agg (Array.mk Yq))).toList 81 false fun o6 => aj False o6 h fun b7 h=>
 N2 [v1,v4,(Value.agg (Array.mk Yq)),(ptrTo b7),(ptrTo b7)] h) (
 N2 [v1,v4,undef,undef,v1] h)) fun l3 h=>
 xF l3 a1 a2 a0 h κ
theorem Wj (a0 a1 a2:Value) (h:Heap) (κ:KQ):aM prog 256 [a0,a1,a2] h κ = (
 au False prog .eql 182 true false a0 (.pointer none) h fun v0 h=>
 ay v0 (
 κ (Value.tuple (Array.mk [(.bool false),(.int .i64 1)])) h) (
 Ei a0 a1 a2 h κ)) := by kernel_rfl
def Nk (a0:Value) (l1:List Value) (gx:List Value) (a4 v2:Value) (l8:List Value) (N0:List Value→Heap→Prop) (v3 v5 v12 bI bO:Value) (me:List Value) (v33 gY v35 v37 v39 v41 gM v45 jQ v49 v51 v53 v55 oR v59 qp sX:Value) (h:Heap):Prop :=
 CallW prog 304 [a0,(slot l1 127),(slot l1 140),(slot gx 13),a4] h fun v64 h=>
 av False 0 v64 h fun mX h=>
 av False 1 v64 h fun v66 h=>
 au False prog .sub 3 false false mX (slot l1 127) h fun v67 h=>
 au False prog .sub 3 false false (slot l1 140) mX h fun sY h=>
 au False prog .quo 3 true false v2 (.int .i64 8) h fun zo h=>
 au False prog .lss 3 false false v67 sY h fun v70 h=>
 ay v70 (
 au False prog .geq 3 false false v67 zo h fun ru h=>
 CallW prog 263 [a0,(slot l1 127),mX,(slot l8 9),a4] h fun v72 h=>
 au False prog .add 3 true false mX (.int .i64 1) h fun zn h=>
 N0 [(slot l1 140),(slot l1 127),v2,v2,v2,v3,(slot l1 6),(slot l1 7),(slot l1 8),(slot l1 9),(slot l1 10),(slot l1 27),v5,(slot l1 13),(slot l1 14),(slot l1 15),(slot l1 16),(slot l1 17),(slot l8 0),(slot l8 1),(slot l8 2),(slot l8 3),(slot l8 4),(slot l8 5),(slot l8 6),(slot l8 7),(slot l8 8),(slot l8 9),a0,(slot l1 127),(slot l1 140),a4,v12,v12,bI,bO,(slot gx 0),(slot gx 1),(slot gx 2),(slot gx 3),(slot gx 4),(slot gx 5),(slot gx 6),(slot gx 7),(slot gx 8),(slot gx 9),(slot gx 10),(slot gx 11),(slot gx 12),(slot gx 13),(slot gx 14),(slot me 0),(slot me 1),(slot me 2),(slot me 3),(slot me 4),(slot me 5),(slot me 6),(slot me 7),(slot me 8),(slot me 9),(slot me 10),(slot me 11),(slot me 12),v33,gY,v35,v37,v39,v41,gM,v45,jQ,v49,v51,v53,v55,oR,v59,qp,sX,(slot l1 81),(slot l1 82),(slot l1 83),(slot l1 84),(slot l1 85),(slot l1 86),(slot l1 87),(slot l1 88),a0,(slot l1 127),(slot l1 140),(slot gx 13),a4,v64,v64,mX,v66,mX,v66,v66,v66,mX,(slot l1 127),v67,(slot l1 140),mX,sY,v67,sY,v2,zo,zo,v67,sY,v70,v67,zo,ru,a0,(slot l1 127),mX,(slot l8 9),a4,v72,mX,zn,zn,(slot l1 128),(slot l1 129),(slot l1 130),ru,(slot l1 132),(slot l1 133),(slot l1 134),(slot l1 135),(slot l1 136),(slot l1 137),(slot l1 138),(slot l1 139),(slot l1 140)] h) (
 au False prog .geq 3 false false sY zo h fun zp h=>
 au False prog .add 3 true false mX (.int .i64 1) h fun v75 h=>
 CallW prog 263 [a0,v75,(slot l1 140),(slot l8 9),a4] h fun v76 h=>
 N0 [(slot l1 140),(slot l1 127),v2,v2,v2,v3,(slot l1 6),(slot l1 7),(slot l1 8),(slot l1 9),(slot l1 10),(slot l1 27),v5,(slot l1 13),(slot l1 14),(slot l1 15),(slot l1 16),(slot l1 17),(slot l8 0),(slot l8 1),(slot l8 2),(slot l8 3),(slot l8 4),(slot l8 5),(slot l8 6),(slot l8 7),(slot l8 8),(slot l8 9),a0,(slot l1 127),(slot l1 140),a4,v12,v12,bI,bO,(slot gx 0),(slot gx 1),(slot gx 2),(slot gx 3),(slot gx 4),(slot gx 5),(slot gx 6),(slot gx 7),(slot gx 8),(slot gx 9),(slot gx 10),(slot gx 11),(slot gx 12),(slot gx 13),(slot gx 14),(slot me 0),(slot me 1),(slot me 2),(slot me 3),(slot me 4),(slot me 5),(slot me 6),(slot me 7),(slot me 8),(slot me 9),(slot me 10),(slot me 11),(slot me 12),v33,gY,v35,v37,v39,v41,gM,v45,jQ,v49,v51,v53,v55,oR,v59,qp,sX,(slot l1 81),(slot l1 82),(slot l1 83),(slot l1 84),(slot l1 85),(slot l1 86),(slot l1 87),(slot l1 88),a0,(slot l1 127),(slot l1 140),(slot gx 13),a4,v64,v64,mX,v66,mX,v66,v66,v66,mX,(slot l1 127),v67,(slot l1 140),mX,sY,v67,sY,v2,zo,zo,v67,sY,v70,(slot l1 116),(slot l1 117),(slot l1 118),(slot l1 119),(slot l1 120),(slot l1 121),(slot l1 122),(slot l1 123),(slot l1 124),(slot l1 125),(slot l1 126),(slot l1 127),sY,zo,zp,zp,a0,mX,v75,(slot l1 140),(slot l8 9),a4,v76,mX,mX] h)
def Nl (l1:List Value) (gx:List Value) (a0 a4:Value) (N22:List Value→Heap→Prop) (h:Heap) (κ:KQ):Prop :=
 ag (ah (slot l1 131) true) (fun DC=>
 DC (slot l1 101) h) h fun v25 h=>
 bf False (slot l1 131) v25 (.bool false) h fun v26 h=>
 ag (ah v26 true) (fun Gy=>
 Gy (slot gx 14) h) h fun v28 h=>
 ag (ah v26 true) (fun Gz=>
 au False prog .eql 245 true false v28 (.int .i64 1) h Gz) h fun v30 h=>
 bf False v26 v30 (.bool false) h fun v31 h=>
 ay v31 (
 CallW prog 302 [a0,(slot l1 127),(slot l1 140),a4] h fun v32 h=>
 ay v32 (
 κ (Value.tuple (Array.mk [])) h) (
 N22 [(slot l1 131),(slot l1 131),v25,v26,v26,v28,v30,v31,a0,(slot l1 127),(slot l1 140),a4,v32] h)) (
 N22 [(slot l1 131),(slot l1 131),v25,v26,v26,v28,v30,v31,(slot l1 59),(slot l1 60),(slot l1 61),(slot l1 62),(slot l1 63)] h)
def Nn (l1:List Value) (a4 a0:Value) (gx:List Value) (N0:List Value→Heap→Prop) (v2 v3 v5:Value) (l8:List Value) (v12 bI bO:Value) (me:List Value) (h:Heap):Prop :=
 aH (some (slot l1 127)) h fun v33 h=>
 aH (au none prog .gtr 3 true false v33 (.int .i64 0) h fun v _=>some v) h fun gY h=>
 aH (some gY) h fun v35 h=>
 ag (ah v35 true) (fun U_=>
 aH (some a4) h U_) h fun v37 h=>
 ag (ah v35 true) (fun Va=>
 aH (some a0) h Va) h fun v39 h=>
 ag (ah v35 true) (fun QO=>
 aH (some (slot l1 127)) h QO) h fun v41 h=>
 ag (ah v35 true) (fun QS=>
 aH (au none prog .sub 3 true false v41 (.int .i64 1) h fun v _=>some v) h QS) h fun gM h=>
 ag (ah v35 true) (fun QT=>
 aH (aq none 2 v39 gM h fun v _=>some v) h QT) h fun v45 h=>
 ag (ah v35 true) (fun Z4=>
 aH (aD none 2 v45 h fun v _=>some v) h Z4) h fun jQ h=>
 ag (ah v35 true) (fun K48=>
 aH (some a0) h K48) h fun v49 h=>
 ag (ah v35 true) (fun K50=>
 aH (some (slot gx 13)) h K50) h fun v51 h=>
 ag (ah v35 true) (fun K52=>
 aH (aq none 2 v49 v51 h fun v _=>some v) h K52) h fun v53 h=>
 ag (ah v35 true) (fun K54=>
 aH (aD none 2 v53 h fun v _=>some v) h K54) h fun v55 h=>
 ag (ah v35 true) (fun K56=>
 jC prog v37 [jQ,v55] h K56) h fun oR h=>
 ag (ah v35 true) (fun K58=>
 aH (au none prog .lss 3 true false oR (.int .i64 0) h fun v _=>some v) h K58) h fun v59 h=>
 ag (ah v35 true) (fun K60=>
 aH (jv none .not v59 h fun v _=>some v) h K60) h fun qp h=>
 aH (bf none v35 qp (.bool false) h fun v _=>some v) h fun sX h=>
 ay sX (
 CallW prog 303 [a0,(slot l1 127),(slot l1 140),(slot gx 13),a4] h fun oh h=>
 N0 [(slot l1 140),(slot l1 127),v2,v2,v2,v3,(slot l1 6),(slot l1 7),(slot l1 8),(slot l1 9),(slot l1 10),(slot l1 27),v5,(slot l1 13),(slot l1 14),(slot l1 15),(slot l1 16),(slot l1 17),(slot l8 0),(slot l8 1),(slot l8 2),(slot l8 3),(slot l8 4),(slot l8 5),(slot l8 6),(slot l8 7),(slot l8 8),(slot l8 9),a0,(slot l1 127),(slot l1 140),a4,v12,v12,bI,bO,(slot gx 0),(slot gx 1),(slot gx 2),(slot gx 3),(slot gx 4),(slot gx 5),(slot gx 6),(slot gx 7),(slot gx 8),(slot gx 9),(slot gx 10),(slot gx 11),(slot gx 12),(slot gx 13),(slot gx 14),(slot me 0),(slot me 1),(slot me 2),(slot me 3),(slot me 4),(slot me 5),(slot me 6),(slot me 7),(slot me 8),(slot me 9),(slot me 10),(slot me 11),(slot me 12),v33,gY,v35,v37,v39,v41,gM,v45,jQ,v49,v51,v53,v55,oR,v59,qp,sX,a0,(slot l1 127),(slot l1 140),(slot gx 13),a4,oh,oh,oh,(slot l1 89),(slot l1 90),(slot l1 91),(slot l1 92),(slot l1 93),(slot l1 94),(slot l1 95),(slot l1 96),(slot l1 97),(slot l1 98),(slot l1 99),(slot l1 100),(slot l1 101),(slot l1 102),(slot l1 103),(slot l1 104),(slot l1 105),(slot l1 106),(slot l1 107),(slot l1 108),(slot l1 109),(slot l1 110),(slot l1 111),(slot l1 112),(slot l1 113),(slot l1 114),(slot l1 115),(slot l1 116),(slot l1 117),(slot l1 118),(slot l1 119),(slot l1 120),(slot l1 121),(slot l1 122),(slot l1 123),(slot l1 124),(slot l1 125),(slot l1 126),oh,(slot l1 128),(slot l1 129),(slot l1 130),(slot l1 131),(slot l1 132),(slot l1 133),(slot l1 134),(slot l1 135),(slot l1 136),(slot l1 137),(slot l1 138),(slot l1 139),(slot l1 140)] h) (
 Nk a0 l1 gx a4 v2 l8 N0 v3 v5 v12 bI bO me v33 gY v35 v37 v39 v41 gM v45 jQ v49 v51 v53 v55 oR v59 qp sX h)
def No (bO a0:Value) (l1:List Value) (a4 bI:Value) (DJ:List Value→Heap→Prop) (h:Heap):Prop :=
 au False prog .eql 245 true false bO (.int .i64 2) h fun v17 h=>
 ay v17 (
 CallW prog 301 [a0,(slot l1 127),(slot l1 140),a4] h fun bR h=>
 au False prog .sub 3 true false (slot l1 140) (.int .i64 1) h fun v19 h=>
 au False prog .sub 3 false false bI (slot l1 127) h fun v20 h=>
 au False prog .sub 3 false false v19 v20 h fun v21 h=>
 DJ [bO,v17,a0,(slot l1 127),(slot l1 140),a4,bR,(slot l1 140),v19,bI,(slot l1 127),v20,v21,v21,(.int .i64 1)] h) (
 DJ [bO,v17,(slot l1 38),(slot l1 39),(slot l1 40),(slot l1 41),(slot l1 42),(slot l1 43),(slot l1 44),(slot l1 45),(slot l1 46),(slot l1 47),(slot l1 48),bI,bO] h)
def Np (a0:Value) (l1:List Value) (a4:Value) (N0:List Value→Heap→Prop) (v2 v3 v5:Value) (l8:List Value) (h:Heap) (κ:KQ):Prop :=
 CallW prog 300 [a0,(slot l1 127),(slot l1 140),a4] h fun v12 h=>
 av False 0 v12 h fun bI h=>
 av False 1 v12 h fun bO h=>
 dD (fun DJ=>
 No bO a0 l1 a4 bI DJ h) fun gx h=>
 dD (fun N22=>
 Nl l1 gx a0 a4 N22 h κ) fun me h=>
 Nn l1 a4 a0 gx N0 v2 v3 v5 l8 v12 bI bO me h
def Nq (l1:List Value) (a0 a4:Value) (N0:List Value→Heap→Prop) (v2 v3 v5:Value) (h:Heap) (κ:KQ):Prop :=
 dD (fun N7=>
 jv False .not (slot l1 131) h fun v9 h=>
 ay v9 (
 CallW prog 299 [a0,(slot l1 127),(slot l1 140),a4] h fun v10 h=>
 au False prog .sub 3 true false (slot l1 27) (.int .i64 1) h fun v11 h=>
 N7 [(slot l1 131),v9,a0,(slot l1 127),(slot l1 140),a4,v10,(slot l1 27),v11,v11] h) (
 N7 [(slot l1 131),v9,(slot l1 20),(slot l1 21),(slot l1 22),(slot l1 23),(slot l1 24),(slot l1 25),(slot l1 26),(slot l1 27)] h)) fun l8 h=>
 Np a0 l1 a4 N0 v2 v3 v5 l8 h κ
def Ej (l1:List Value) (a0 a4:Value) (N0:List Value→Heap→Prop) (h:Heap) (κ:KQ):Prop :=
 au False prog .sub 3 false false (slot l1 140) (slot l1 127) h fun v2 h=>
 au False prog .leq 3 true false v2 (.int .i64 12) h fun v3 h=>
 ay v3 (
 CallW prog 297 [a0,(slot l1 127),(slot l1 140),a4] h fun v4 h=>
 κ (Value.tuple (Array.mk [])) h) (
 au False prog .eql 3 true false (slot l1 27) (.int .i64 0) h fun v5 h=>
 ay v5 (
 CallW prog 298 [a0,(slot l1 127),(slot l1 140),a4] h fun v6 h=>
 κ (Value.tuple (Array.mk [])) h) (
 Nq l1 a0 a4 N0 v2 v3 v5 h κ))
theorem Wk (a0 a1 a2 a3 a4:Value) (h:Heap) (κ:KQ):aM prog 263 [a0,a1,a2,a3,a4] h κ = (
 b6 [undef,undef,undef,undef,undef,undef,undef,undef,undef,undef,undef,undef,undef,undef,undef,undef,undef,undef,undef,undef,undef,undef,undef,undef,undef,undef,undef,a3,undef,undef,undef,undef,undef,undef,undef,undef,undef,undef,undef,undef,undef,undef,undef,undef,undef,undef,undef,undef,undef,undef,undef,undef,undef,undef,undef,undef,undef,undef,undef,undef,undef,undef,undef,undef,undef,undef,undef,undef,undef,undef,undef,undef,undef,undef,undef,undef,undef,undef,undef,undef,undef,undef,undef,undef,undef,undef,undef,undef,undef,undef,undef,undef,undef,undef,undef,undef,undef,undef,undef,undef,undef,(.bool true),undef,undef,undef,undef,undef,undef,undef,undef,undef,undef,undef,undef,undef,undef,undef,undef,undef,undef,undef,undef,undef,undef,undef,undef,undef,a1,undef,undef,undef,(.bool true),undef,undef,undef,undef,undef,undef,undef,undef,a2] h fun l1 h N0=>
 Ej l1 a0 a4 N0 h κ) := by kernel_rfl
theorem Wl (a0 a1:Value) (h:Heap) (κ:KQ):aM prog 269 [a0,a1] h κ = (
 ax False (Value.cells a0).toList 83 false fun o0 => aj False o0 h fun b1 h=>
 fieldAddrB False 0 (ptrTo b1) h fun v2 h=>
 load1 False v2 h fun v3 h=>
 load1 False a1 h fun v4 h=>
 au False prog .eql 3 false false v3 v4 h fun v5 h=>
 κ v5 h) := by kernel_rfl
theorem Wm (a0:Value) (h:Heap) (κ:KQ):aM prog 287 [a0] h κ = (
 ax False (Value.cells a0).toList 81 false fun o0 => aj False o0 h fun b1 h=>
 ax False [(.int .i64 0),(.int .i64 0),(.slice none 0 0),(.int .i64 0)] 305 false fun o2 => aj False o2 h fun b3 h=>
 fieldAddrB False 2 (ptrTo b1) h fun v4 h=>
 load1 False v4 h fun v5 h=>
 CallW prog 139 [v5] h fun v6 h=>
 fieldAddrB False 2 (ptrTo b1) h fun v7 h=>
 aI False 1 v7 v6 h fun v8 h=>
 aD False 4 (ptrTo b1) h fun v9 h=>
 bC False [(0,4)] [v9] [(.int .i64 0),(.int .i64 0),(.slice none 0 0),(.int .i64 0)] fun afE=>
 aI False 4 (ptrTo b3) (Value.agg (Array.mk afE)) h fun v11 h=>
 aD False 4 (ptrTo b3) h fun v12 _ => κ v12 h) := by kernel_rfl
theorem Wn (a0 a1:Value) (h:Heap) (κ:KQ):aM prog 288 [a0,a1] h κ = (
 ax False (Value.cells a0).toList 305 false fun o0 => aj False o0 h fun b1 h=>
 ax False (Value.cells a1).toList 3 false fun o2 => aj False o2 h fun b3 h=>
 ax False [(.int .i64 0),(.int .i64 0),(.slice none 0 0),(.int .i64 0)] 81 false fun o4 => aj False o4 h fun b5 h=>
 fieldAddrB False 0 (ptrTo b1) h fun v6 h=>
 fieldAddrB False 2 v6 h fun v7 h=>
 load1 False v7 h fun v8 h=>
 CallW prog 315 [v8,(Value.func (.func 316) (Array.mk []) (Array.mk [(ptrTo b3)]))] h fun v9 h=>
 fieldAddrB False 0 (ptrTo b1) h fun v10 h=>
 fieldAddrB False 2 v10 h fun v11 h=>
 aI False 1 v11 v9 h fun v12 h=>
 fieldAddrB False 0 (ptrTo b1) h fun bI h=>
 aD False 4 bI h fun bO h=>
 aI False 4 (ptrTo b5) bO h fun bN h=>
 aD False 4 (ptrTo b5) h fun v16 _ => κ v16 h) := by kernel_rfl
def Ek (b7:Nat) (bI:Value) (bL:List Value) (QK:List Value→Heap→Prop) (v12 bO v16 bR v20 v22 v24 v26 v28 v30 v32 v33:Value) (h:Heap):Prop :=
 aH (fieldAddrB none 0 (ptrTo b7) h fun v _=>some v) h fun mu h=>
 aH (fieldAddrB none 2 mu h fun v _=>some v) h fun v39 h=>
 aH (load1 none v39 h fun v _=>some v) h fun v40 h=>
 aH (some bI) h fun v41 h=>
 aH (fieldAddrB none 0 (ptrTo b7) h fun v _=>some v) h fun iD h=>
 aH (fieldAddrB none 2 iD h fun v _=>some v) h fun gM h=>
 aH (load1 none gM h fun v _=>some v) h fun v44 h=>
 aH (some bI) h fun v45 h=>
 aH (fieldAddrB none 0 (ptrTo b7) h fun v _=>some v) h fun v46 h=>
 aH (fieldAddrB none 2 v46 h fun v _=>some v) h fun jQ h=>
 aH (load1 none jQ h fun v _=>some v) h fun jH h=>
 aH (some bI) h fun v49 h=>
 aH (aq none 5 jH v49 h fun v _=>some v) h fun v50 h=>
 aH (fieldAddrB none 3 v50 h fun v _=>some v) h fun v51 h=>
 aH (load1 none v51 h fun v _=>some v) h fun nR h=>
 aH (aq none 5 v40 v41 h fun v _=>some v) h fun v53 h=>
 aH (fieldAddrB none 2 v53 h fun v _=>some v) h fun v54 h=>
 aI False 1 v54 nR h fun v55 h=>
 dM ((gz (fieldAddrB none 0 (ptrTo b7) h fun v _=>some v) iD) && ((gz (fieldAddrB none 2 iD h fun v _=>some v) gM) && ((gz (load1 none gM h fun v _=>some v) v44) && ((gz (some bI) v45) && true)))) (aH (aq none 5 v44 v45 h fun v _=>some v) h fun qa h=>
 aH (fieldAddrB none 4 qa h fun v _=>some v) h fun oR h=>
 aI False 1 oR (.int .i64 0) h fun v58 h=>
 fieldAddrB False 0 (ptrTo b7) h fun v59 h=>
 fieldAddrB False 2 v59 h fun v60 h=>
 load1 False v60 h fun qp h=>
 aq False 5 qp bI h fun sX h=>
 fieldAddrB False 0 sX h fun oh h=>
 load1 False oh h fun v64 h=>
 bC False [(0,1)] [v64] (aU [(.int .i64 0)] 1) fun afF => ax False afF 3 false fun o65 => aj False o65 h fun PJ h=>
 bu False 3 1 [(.int .i64 0)] false (slot bL 49) (sliceTo 1 1 PJ) h fun sY h=>
 QK [v12,bI,bI,bI,bO,bO,v16,bR,v20,v22,v24,v26,v28,v30,v32,v33,(slot bL 16),(slot bL 17),(slot bL 18),(slot bL 19),mu,v39,v40,v41,iD,gM,v44,v45,v46,jQ,jH,v49,v50,v51,nR,v53,v54,qa,oR,(slot bL 49),v59,v60,qp,bI,sX,oh,v64,(sliceTo 1 1 PJ),sY,sY] h)
def El (b7:Nat) (v9:Value) (b3:Nat) (bL:List Value) (QK:List Value→Heap→Prop) (h:Heap) (κ:KQ):Prop :=
 aD False 4 (ptrTo b7) h fun v12 h=>
 CallW prog 318 [v12] h fun bI h=>
 au False prog .lss 3 true false bI (.int .i64 0) h fun bO h=>
 ag (ah bO false) (fun Vb=>
 Vb (Value.func (.func 317) (Array.mk [v9]) (Array.mk [])) h) h fun v16 h=>
 ag (ah bO false) (fun M8=>
 fieldAddrB False 0 (ptrTo b7) h M8) h fun bR h=>
 ag (ah bO false) (fun Bt=>
 fieldAddrB False 2 bR h Bt) h fun v20 h=>
 ag (ah bO false) (fun DD=>
 load1 False v20 h DD) h fun v22 h=>
 ag (ah bO false) (fun DE=>
 DE bI h) h fun v24 h=>
 ag (ah bO false) (fun Nb=>
 aq False 5 v22 v24 h Nb) h fun v26 h=>
 ag (ah bO false) (fun Gy=>
 aD False 5 v26 h Gy) h fun v28 h=>
 ag (ah bO false) (fun Gz=>
 jC prog v16 [v28] h Gz) h fun v30 h=>
 ag (ah bO false) (fun Gv=>
 jv False .not v30 h Gv) h fun v32 h=>
 bf False bO (.bool true) v32 h fun v33 h=>
 ay v33 (
 fieldAddrB False 0 (ptrTo b7) h fun gY h=>
 aD False 4 gY h fun v35 h=>
 aI False 4 (ptrTo b3) v35 h fun iP h=>
 aD False 4 (ptrTo b3) h fun v37 _ => κ (Value.tuple (Array.mk [v37,(slot bL 49)])) h) (
 Ek b7 bI bL QK v12 bO v16 bR v20 v22 v24 v26 v28 v30 v32 v33 h)
theorem Wo (a0:Value) (h:Heap) (κ:KQ):aM prog 289 [a0] h κ = (
 ax False (Value.cells a0).toList 81 false fun o0 => aj False o0 h fun b1 h=>
 ax False [(.int .i64 0),(.int .i64 0),(.slice none 0 0),(.int .i64 0)] 81 false fun o2 => aj False o2 h fun b3 h=>
 aD False 4 (ptrTo b1) h fun v4 h=>
 CallW prog 287 [v4] h fun v5 h=>
 ax False [(.int .i64 0),(.int .i64 0),(.slice none 0 0),(.int .i64 0)] 305 false fun o6 => aj False o6 h fun b7 h=>
 aI False 4 (ptrTo b7) v5 h fun v8 h=>
 aD False 4 (ptrTo b7) h fun v9 h=>
 b6 [undef,undef,undef,undef,undef,undef,undef,undef,undef,undef,undef,undef,undef,undef,undef,undef,undef,undef,undef,(.slice none 0 0),undef,undef,undef,undef,undef,undef,undef,undef,undef,undef,undef,undef,undef,undef,undef,undef,undef,undef,undef,undef,undef,undef,undef,undef,undef,undef,undef,undef,undef,(.slice none 0 0)] h fun bL h QK=>
 El b7 v9 b3 bL QK h κ) := by kernel_rfl
theorem Wp (a0 a1:Value) (h:Heap) (κ:KQ):aM prog 290 [a0,a1] h κ = (
 ax False (Value.cells a0).toList 83 false fun o0 => aj False o0 h fun b1 h=>
 fieldAddrB False 1 (ptrTo b1) h fun v2 h=>
 load1 False v2 h fun v3 h=>
 load1 False a1 h fun v4 h=>
 au False prog .eql 3 false false v3 v4 h fun v5 h=>
 κ v5 h) := by kernel_rfl
def Em (v0 a1 a0:Value) (h:Heap) (κ:KQ):Prop :=
 aV False v0 h fun v3 h=>
 aD False 4 v3 h fun v4 h=>
 CallW prog 319 [v4,a1] h fun v5 h=>
 av False 0 v5 h fun v6 h=>
 av False 1 v5 h fun v7 h=>
 ax False [(.int .i64 0),(.int .i64 0),(.slice none 0 0),(.int .i64 0)] 81 false fun o8 => aj False o8 h fun b9 h=>
 aI False 4 (ptrTo b9) v6 h fun v10 h=>
 aV False a0 h fun v11 h=>
 fieldAddrB False 1 v11 h fun v12 h=>
 load1 False v12 h fun bI h=>
 CallW prog 246 [bI,a1] h fun bO h=>
 aD False 4 (ptrTo b9) h fun bN h=>
 CallW prog 247 [a0,bN] h fun v16 h=>
 κ (Value.tuple (Array.mk [v16,(.int .i64 0)])) h
theorem Wq (a0 a1:Value) (h:Heap) (κ:KQ):aM prog 291 [a0,a1] h κ = (
 CallW prog 243 [a0,a1] h fun v0 h=>
 au False prog .eql 228 true false v0 (.pointer none) h fun v1 h=>
 ay v1 (
 CallW prog 244 [a0] h fun v2 h=>
 κ (Value.tuple (Array.mk [(.slice none 0 0),v2])) h) (
 Em v0 a1 a0 h κ)) := by kernel_rfl
def En (a0:Value) (h:Heap) (κ:KQ):Prop :=
 aV False a0 h fun v7 h=>
 fieldAddrB False 0 v7 h fun v8 h=>
 CallW prog 135 [(Value.iface 240 v8)] h fun v9 h=>
 eD False 3 (.int .i64 0) true v9 h fun v10 h=>
 av False 0 v10 h fun v11 h=>
 av False 1 v10 h fun v12 h=>
 aV False a0 h fun bI h=>
 fieldAddrB False 1 bI h fun bO h=>
 load1 False bO h fun bN h=>
 aq False 1 bN v11 h fun v16 h=>
 aI False 1 v16 (.bool true) h fun v17 h=>
 κ (Value.tuple (Array.mk [v11,(.int .i64 0)])) h
def Eo (a0:Value) (h:Heap) (κ:KQ):Prop :=
 aV False a0 h fun v1 h=>
 fieldAddrB False 0 v1 h fun v2 h=>
 fieldAddrB False 0 v2 h fun v3 h=>
 load1 False v3 h fun v4 h=>
 CallW prog 137 [v4] h fun v5 h=>
 au False prog .eql 3 true false v5 (.int .i64 0) h fun v6 h=>
 ay v6 (
 κ (Value.tuple (Array.mk [(.int .i64 0),(.int .i64 8)])) h) (
 En a0 h κ)
theorem Wr (a0:Value) (h:Heap) (κ:KQ):aM prog 292 [a0] h κ = (
 au False prog .eql 144 true false a0 (.pointer none) h fun v0 h=>
 ay v0 (
 κ (Value.tuple (Array.mk [(.int .i64 0),(.int .i64 1)])) h) (
 Eo a0 h κ)) := by kernel_rfl
def xG (yW Kq:Nat) (PI:List Value→Heap→Prop) (v46:Value) (h:Heap):Prop :=
 fieldAddrB False 0 (ptrTo yW) h fun v51 h=>
 fieldAddrB False 3 v51 h fun nR h=>
 load1 False nR h fun v53 h=>
 au False prog .add 3 true false v53 (.int .i64 1) h fun v54 h=>
 fieldAddrB False 0 (ptrTo yW) h fun v55 h=>
 fieldAddrB False 3 v55 h fun qa h=>
 aI False 1 qa v54 h fun oR h=>
 fieldAddrB False 0 (ptrTo yW) h fun v58 h=>
 fieldAddrB False 3 v58 h fun v59 h=>
 load1 False v59 h fun v60 h=>
 fieldAddrB False 4 (ptrTo Kq) h fun qp h=>
 aI False 1 qp v60 h fun sX h=>
 PI [v46,undef,undef,v51,nR,v53,v54,v55,qa,v58,v59,v60,qp] h
def su (yW Kq b7:Nat) (v46:Value) (h:Heap) (κ:KQ):Prop :=
 fieldAddrB False 0 (ptrTo yW) h fun oh h=>
 fieldAddrB False 2 oh h fun v64 h=>
 load1 False v64 h fun mX h=>
 aD False 5 (ptrTo Kq) h fun v66 h=>
 bC False [(0,5)] [v66] (aU [(.int .i64 0),(.int .i64 0),(.int .i64 0),(.int .i64 0),(.int .i64 0)] 1) fun afG => ax False afG 83 false fun o67 => aj False o67 h fun b68 h=>
 bu False 83 5 [(.int .i64 0),(.int .i64 0),(.int .i64 0),(.int .i64 0),(.int .i64 0)] false mX (sliceTo 1 1 b68) h fun v70 h=>
 fieldAddrB False 0 (ptrTo yW) h fun ru h=>
 fieldAddrB False 2 ru h fun v72 h=>
 aI False 1 v72 v70 h fun zn h=>
 fieldAddrB False 0 (ptrTo yW) h fun zp h=>
 aD False 4 zp h fun v75 h=>
 aI False 4 (ptrTo b7) v75 h fun v76 h=>
 aD False 4 (ptrTo b7) h fun v77 _ => κ (Value.tuple (Array.mk [v77,v46,(.int .i64 0)])) h
def Ep (b1 b3 b5:Nat) (a3:Value) (b7:Nat) (h:Heap) (κ:KQ):Prop :=
 aD False 4 (ptrTo b1) h fun v26 h=>
 CallW prog 287 [v26] h fun v27 h=>
 ax False [(.int .i64 0),(.int .i64 0),(.slice none 0 0),(.int .i64 0)] 305 false fun o28 => aj False o28 h fun yW h=>
 aI False 4 (ptrTo yW) v27 h fun v30 h=>
 load1 False (ptrTo b3) h fun v31 h=>
 load1 False (ptrTo b5) h fun v32 h=>
 bC False [(0,1),(1,1),(3,1)] [v31,v32,a3] [(.int .i64 0),(.int .i64 0),(.int .i64 0),(.int .i64 0),(.int .i64 0)] fun afH=>
 ax False [(.int .i64 0),(.int .i64 0),(.int .i64 0),(.int .i64 0),(.int .i64 0)] 83 false fun o34 => aj False o34 h fun Kq h=>
 aI False 5 (ptrTo Kq) (Value.agg (Array.mk afH)) h fun iP h=>
 aD False 4 (ptrTo yW) h fun v37 h=>
 CallW prog 318 [v37] h fun mu h=>
 au False prog .lss 3 true false mu (.int .i64 0) h fun v39 h=>
 ag (ah v39 true) (fun QO=>
 aD False 4 (ptrTo yW) h QO) h fun v41 h=>
 ag (ah v39 true) (fun QS=>
 aD False 5 (ptrTo Kq) h QS) h fun gM h=>
 ag (ah v39 true) (fun QT=>
 CallW prog 317 [v41,gM] h QT) h fun v45 h=>
 bf False v39 v45 (.bool false) h fun v46 h=>
 dD (fun PI=>
 ay v46 (
 fieldAddrB False 2 (ptrTo Kq) h fun v49 h=>
 aI False 1 v49 a3 h fun v50 h=>
 PI [v46,a3,v49,undef,undef,undef,undef,undef,undef,undef,undef,undef,undef] h) (
 xG yW Kq PI v46 h)) fun PG h=>
 su yW Kq b7 v46 h κ
def Er (b1 b3 b5 b7:Nat) (a3:Value) (h:Heap) (κ:KQ):Prop :=
 fieldAddrB False 2 (ptrTo b1) h fun v20 h=>
 load1 False v20 h fun v21 h=>
 CallW prog 321 [v21,(Value.func (.func 322) (Array.mk []) (Array.mk [(ptrTo b3),(ptrTo b5)]))] h fun v22 h=>
 ay v22 (
 bC False [] [] [(.int .i64 0),(.int .i64 0),(.slice none 0 0),(.int .i64 0)] fun Vc=>
 aI False 4 (ptrTo b7) (Value.agg (Array.mk Vc)) h fun v24 h=>
 aD False 4 (ptrTo b7) h fun v25 _ => κ (Value.tuple (Array.mk [v25,(.bool false),(.int .i64 4)])) h) (
 Ep b1 b3 b5 a3 b7 h κ)
theorem Ws (a0 a1 a2 a3:Value) (h:Heap) (κ:KQ):aM prog 293 [a0,a1,a2,a3] h κ = (
 ax False (Value.cells a0).toList 81 false fun o0 => aj False o0 h fun b1 h=>
 ax False (Value.cells a1).toList 3 false fun o2 => aj False o2 h fun b3 h=>
 ax False (Value.cells a2).toList 3 false fun o4 => aj False o4 h fun b5 h=>
 ax False [(.int .i64 0),(.int .i64 0),(.slice none 0 0),(.int .i64 0)] 81 false fun o6 => aj False o6 h fun b7 h=>
 load1 False (ptrTo b3) h fun v8 h=>
 au False prog .lss 3 true false v8 (.int .i64 0) h fun v9 h=>
 ag (ah v9 false) (fun oS=>
 oS a3 h) h fun v11 h=>
 ag (ah v9 false) (fun mN=>
 CallW prog 320 [v11] h mN) h fun bI h=>
 ag (ah v9 false) (fun ry=>
 jv False .not bI h ry) h fun bN h=>
 bf False v9 (.bool true) bN h fun v16 h=>
 ay v16 (
 bC False [] [] [(.int .i64 0),(.int .i64 0),(.slice none 0 0),(.int .i64 0)] fun GD=>
 aI False 4 (ptrTo b7) (Value.agg (Array.mk GD)) h fun bR h=>
 aD False 4 (ptrTo b7) h fun v19 _ => κ (Value.tuple (Array.mk [v19,(.bool false),(.int .i64 2)])) h) (
 Er b1 b3 b5 b7 a3 h κ)) := by kernel_rfl
def xH (v32:Value) (PK:List Value→Heap→Prop) (zp:Value) (h:Heap):Prop :=
 aV False v32 h fun v77 h=>
 fieldAddrB False 3 v77 h fun v78 h=>
 load1 False v78 h fun v79 h=>
 aV False v32 h fun v80 h=>
 fieldAddrB False 2 v80 h fun Gt h=>
 aI False 1 Gt v79 h fun v82 h=>
 PK [zp,v32,v32,v77,v78,v79,v80,Gt,undef,undef,undef,undef,undef,undef,undef,undef,undef,undef,undef,undef] h
def xI (vl:Nat) (v32:Value) (PK:List Value→Heap→Prop) (zp:Value) (h:Heap):Prop :=
 fieldAddrB False 0 (ptrTo vl) h fun Gu h=>
 fieldAddrB False 3 Gu h fun Im h=>
 load1 False Im h fun v85 h=>
 au False prog .add 3 true false v85 (.int .i64 1) h fun PF h=>
 fieldAddrB False 0 (ptrTo vl) h fun v87 h=>
 fieldAddrB False 3 v87 h fun Kk h=>
 aI False 1 Kk PF h fun Gw h=>
 fieldAddrB False 0 (ptrTo vl) h fun Tn h=>
 fieldAddrB False 3 Tn h fun v91 h=>
 load1 False v91 h fun Zp h=>
 aV False v32 h fun v93 h=>
 fieldAddrB False 4 v93 h fun v94 h=>
 aI False 1 v94 Zp h fun MZ h=>
 PK [zp,undef,undef,undef,undef,undef,undef,undef,Gu,Im,v85,PF,v87,Kk,v32,Tn,v91,Zp,v93,v94] h
def Es (vl:Nat) (bN a2:Value) (b3:Nat) (h:Heap) (κ:KQ):Prop :=
 fieldAddrB False 0 (ptrTo vl) h fun fG h=>
 fieldAddrB False 2 fG h fun v30 h=>
 load1 False v30 h fun v31 h=>
 aq False 5 v31 bN h fun v32 h=>
 aV False v32 h fun v33 h=>
 fieldAddrB False 2 v33 h fun gY h=>
 load1 False gY h fun v35 h=>
 CallW prog 208 [v35,a2] h fun iP h=>
 aV False v32 h fun v37 h=>
 fieldAddrB False 3 v37 h fun mu h=>
 aI False 1 mu iP h fun v39 h=>
 aH (some v32) h fun v40 h=>
 aH (aV none v40 h fun v _=>some v) h fun v41 h=>
 aH (fieldAddrB none 3 v41 h fun v _=>some v) h fun iD h=>
 aH (load1 none iD h fun v _=>some v) h fun gM h=>
 aH (some v32) h fun v44 h=>
 aH (aV none v44 h fun v _=>some v) h fun v45 h=>
 aH (fieldAddrB none 2 v45 h fun v _=>some v) h fun v46 h=>
 aH (load1 none v46 h fun v _=>some v) h fun jQ h=>
 aH (au none prog .eql 37 false false gM jQ h fun v _=>some v) h fun jH h=>
 aH (some jH) h fun v49 h=>
 ag (ah v49 false) (fun K50=>
 aH (aD none 4 (ptrTo vl) h fun v _=>some v) h K50) h fun v51 h=>
 ag (ah v49 false) (fun K52=>
 aH (some v32) h K52) h fun v53 h=>
 ag (ah v49 false) (fun K54=>
 aH (aV none v53 h fun v _=>some v) h K54) h fun v55 h=>
 ag (ah v49 false) (fun K56=>
 aH (aD none 5 v55 h fun v _=>some v) h K56) h fun oR h=>
 ag (ah v49 false) (fun K58=>
 CallW prog 317 [v51,oR] h K58) h fun v59 h=>
 ag (ah v49 false) (fun K60=>
 aH (some v59) h K60) h fun qp h=>
 ag (ah qp true) (fun K62=>
 aH (fieldAddrB none 0 (ptrTo vl) h fun v _=>some v) h K62) h fun oh h=>
 ag (ah qp true) (fun K64=>
 aH (fieldAddrB none 2 oh h fun v _=>some v) h K64) h fun mX h=>
 ag (ah qp true) (fun K66=>
 aH (load1 none mX h fun v _=>some v) h K66) h fun v67 h=>
 ag (ah qp true) (fun K68=>
 CallW prog 321 [v67,(Value.func (.func 238) (Array.mk []) (Array.mk []))] h K68) h fun zo h=>
 ag (ah qp true) (fun K70=>
 aH (jv none .not zo h fun v _=>some v) h K70) h fun ru h=>
 ag (ah v49 false) (fun K72=>
 aH (bf none qp ru (.bool false) h fun v _=>some v) h K72) h fun zn h=>
 aH (bf none v49 (.bool true) zn h fun v _=>some v) h fun zp h=>
 dD (fun PK=>
 ay zp (
 xH v32 PK zp h) (
 xI vl v32 PK zp h)) fun l76 h=>
 fieldAddrB False 0 (ptrTo vl) h fun ZV h=>
 aD False 4 ZV h fun M0 h=>
 aI False 4 (ptrTo b3) M0 h fun v98 h=>
 aD False 4 (ptrTo b3) h fun M1 _ => κ (Value.tuple (Array.mk [M1,zp,(.int .i64 0)])) h
def Et (vl:Nat) (bN:Value) (b3:Nat) (a2:Value) (h:Heap) (κ:KQ):Prop :=
 fieldAddrB False 0 (ptrTo vl) h fun v20 h=>
 fieldAddrB False 2 v20 h fun v21 h=>
 load1 False v21 h fun v22 h=>
 aq False 5 v22 bN h fun v23 h=>
 aD False 5 v23 h fun v24 h=>
 CallW prog 192 [v24] h fun v25 h=>
 ay v25 (
 bC False [] [] [(.int .i64 0),(.int .i64 0),(.slice none 0 0),(.int .i64 0)] fun Ve=>
 aI False 4 (ptrTo b3) (Value.agg (Array.mk Ve)) h fun v27 h=>
 aD False 4 (ptrTo b3) h fun v28 _ => κ (Value.tuple (Array.mk [v28,(.bool false),(.int .i64 7)])) h) (
 Es vl bN a2 b3 h κ)
def Eu (b1:Nat) (a1:Value) (b3:Nat) (a2:Value) (h:Heap) (κ:KQ):Prop :=
 aD False 4 (ptrTo b1) h fun v9 h=>
 CallW prog 287 [v9] h fun v10 h=>
 ax False [(.int .i64 0),(.int .i64 0),(.slice none 0 0),(.int .i64 0)] 305 false fun o11 => aj False o11 h fun vl h=>
 aI False 4 (ptrTo vl) v10 h fun bI h=>
 aD False 4 (ptrTo vl) h fun bO h=>
 CallW prog 236 [bO,a1] h fun bN h=>
 au False prog .lss 3 true false bN (.int .i64 0) h fun v16 h=>
 ay v16 (
 bC False [] [] [(.int .i64 0),(.int .i64 0),(.slice none 0 0),(.int .i64 0)] fun GD=>
 aI False 4 (ptrTo b3) (Value.agg (Array.mk GD)) h fun bR h=>
 aD False 4 (ptrTo b3) h fun v19 _ => κ (Value.tuple (Array.mk [v19,(.bool false),(.int .i64 5)])) h) (
 Et vl bN b3 a2 h κ)
theorem Wt (a0 a1 a2:Value) (h:Heap) (κ:KQ):aM prog 294 [a0,a1,a2] h κ = (
 ax False (Value.cells a0).toList 81 false fun o0 => aj False o0 h fun b1 h=>
 ax False [(.int .i64 0),(.int .i64 0),(.slice none 0 0),(.int .i64 0)] 81 false fun o2 => aj False o2 h fun b3 h=>
 CallW prog 320 [a2] h fun v4 h=>
 jv False .not v4 h fun v5 h=>
 ay v5 (
 bC False [] [] [(.int .i64 0),(.int .i64 0),(.slice none 0 0),(.int .i64 0)] fun Vd=>
 aI False 4 (ptrTo b3) (Value.agg (Array.mk Vd)) h fun v7 h=>
 aD False 4 (ptrTo b3) h fun v8 _ => κ (Value.tuple (Array.mk [v8,(.bool false),(.int .i64 2)])) h) (
 Eu b1 a1 b3 a2 h κ)) := by kernel_rfl
def Nr (a0:Value) (l5:List Value) (N4:List Value→Heap→Prop) (v6 v7 v8 v9 v11 bI bN v17 v19 v21 v23 v25 v27 fG v31 v33 gY:Value) (h:Heap):Prop :=
 aH (some a0) h fun v35 h=>
 aH (some (slot l5 35)) h fun iP h=>
 aH (some a0) h fun v37 h=>
 aH (some (slot l5 35)) h fun mu h=>
 aH (au none prog .sub 3 true false mu (.int .i64 1) h fun v _=>some v) h fun v39 h=>
 aH (some a0) h fun v40 h=>
 aH (some (slot l5 35)) h fun v41 h=>
 aH (au none prog .sub 3 true false v41 (.int .i64 1) h fun v _=>some v) h fun iD h=>
 aH (aq none 2 v40 iD h fun v _=>some v) h fun gM h=>
 aH (aD none 2 gM h fun v _=>some v) h fun v44 h=>
 aH (some a0) h fun v45 h=>
 aH (some (slot l5 35)) h fun v46 h=>
 aH (aq none 2 v45 v46 h fun v _=>some v) h fun jQ h=>
 aH (aD none 2 jQ h fun v _=>some v) h fun jH h=>
 aH (aq none 2 v35 iP h fun v _=>some v) h fun v49 h=>
 aI False 2 v49 v44 h fun v50 h=>
 dM ((gz (some a0) v37) && ((gz (some (slot l5 35)) mu) && ((gz (au none prog .sub 3 true false mu (.int .i64 1) h fun v _=>some v) v39) && true))) (aH (aq none 2 v37 v39 h fun v _=>some v) h fun v51 h=>
 aI False 2 v51 jH h fun nR h=>
 au False prog .sub 3 true false (slot l5 35) (.int .i64 1) h fun v53 h=>
 N4 [v6,v7,v8,v9,v11,bI,bN,v17,v19,v21,v23,v25,v27,fG,v31,v33,gY,v35,iP,v37,mu,v39,v40,v41,iD,gM,v44,v45,v46,jQ,jH,v49,v51,(slot l5 35),v53,v53] h)
def Ns (l5:List Value) (a1 a3 a0:Value) (N4:List Value→Heap→Prop) (l2:List Value) (N1:List Value→Heap→Prop) (a2 v3:Value) (h:Heap):Prop :=
 aH (some (slot l5 35)) h fun v6 h=>
 aH (some a1) h fun v7 h=>
 aH (au none prog .gtr 3 false false v6 v7 h fun v _=>some v) h fun v8 h=>
 aH (some v8) h fun v9 h=>
 ag (ah v9 true) (fun oS=>
 aH (some a3) h oS) h fun v11 h=>
 ag (ah v9 true) (fun mN=>
 aH (some a0) h mN) h fun bI h=>
 ag (ah v9 true) (fun ry=>
 aH (some (slot l5 35)) h ry) h fun bN h=>
 ag (ah v9 true) (fun uS=>
 aH (aq none 2 bI bN h fun v _=>some v) h uS) h fun v17 h=>
 ag (ah v9 true) (fun Bx=>
 aH (aD none 2 v17 h fun v _=>some v) h Bx) h fun v19 h=>
 ag (ah v9 true) (fun DI=>
 aH (some a0) h DI) h fun v21 h=>
 ag (ah v9 true) (fun K22=>
 aH (some (slot l5 35)) h K22) h fun v23 h=>
 ag (ah v9 true) (fun DC=>
 aH (au none prog .sub 3 true false v23 (.int .i64 1) h fun v _=>some v) h DC) h fun v25 h=>
 ag (ah v9 true) (fun Bs=>
 aH (aq none 2 v21 v25 h fun v _=>some v) h Bs) h fun v27 h=>
 ag (ah v9 true) (fun DB=>
 aH (aD none 2 v27 h fun v _=>some v) h DB) h fun fG h=>
 ag (ah v9 true) (fun Gr=>
 jC prog v11 [v19,fG] h Gr) h fun v31 h=>
 ag (ah v9 true) (fun QJ=>
 aH (au none prog .lss 3 true false v31 (.int .i64 0) h fun v _=>some v) h QJ) h fun v33 h=>
 aH (bf none v9 v33 (.bool false) h fun v _=>some v) h fun gY h=>
 ay gY (
 Nr a0 l5 N4 v6 v7 v8 v9 v11 bI bN v17 v19 v21 v23 v25 v27 fG v31 v33 gY h) (
 au False prog .add 3 true false (slot l2 42) (.int .i64 1) h fun v54 h=>
 N1 [(slot l2 42),a2,v3,(slot l2 42),v6,v7,v8,v9,v11,bI,bN,v17,v19,v21,v23,v25,v27,fG,v31,v33,gY,(slot l5 17),(slot l5 18),(slot l5 19),(slot l5 20),(slot l5 21),(slot l5 22),(slot l5 23),(slot l5 24),(slot l5 25),(slot l5 26),(slot l5 27),(slot l5 28),(slot l5 29),(slot l5 30),(slot l5 31),(slot l5 32),(slot l5 33),(slot l5 34),(slot l5 35),(slot l2 42),v54,v54] h)
theorem Wu (a0 a1 a2 a3:Value) (h:Heap) (κ:KQ):aM prog 297 [a0,a1,a2,a3] h κ = (
 au False prog .add 3 true false a1 (.int .i64 1) h fun v0 h=>
 b6 [undef,undef,undef,undef,undef,undef,undef,undef,undef,undef,undef,undef,undef,undef,undef,undef,undef,undef,undef,undef,undef,undef,undef,undef,undef,undef,undef,undef,undef,undef,undef,undef,undef,undef,undef,undef,undef,undef,undef,undef,undef,undef,v0] h fun l2 h N1=>
 au False prog .lss 3 false false (slot l2 42) a2 h fun v3 h=>
 ay v3 (
 b6 [(slot l2 4),(slot l2 5),(slot l2 6),(slot l2 7),(slot l2 8),(slot l2 9),(slot l2 10),(slot l2 11),(slot l2 12),(slot l2 13),(slot l2 14),(slot l2 15),(slot l2 16),(slot l2 17),(slot l2 18),(slot l2 19),(slot l2 20),(slot l2 21),(slot l2 22),(slot l2 23),(slot l2 24),(slot l2 25),(slot l2 26),(slot l2 27),(slot l2 28),(slot l2 29),(slot l2 30),(slot l2 31),(slot l2 32),(slot l2 33),(slot l2 34),(slot l2 35),(slot l2 36),(slot l2 37),(slot l2 38),(slot l2 42)] h fun l5 h N4=>
 Ns l5 a1 a3 a0 N4 l2 N1 a2 v3 h) (
 κ (Value.tuple (Array.mk [])) h)) := by kernel_rfl
theorem Ww (a0 a1:Value) (h:Heap) (κ:KQ):aM prog 316 [a0,a1] h κ = (
 ax False (Value.cells a0).toList 83 false fun o0 => aj False o0 h fun b1 h=>
 fieldAddrB False 0 (ptrTo b1) h fun v2 h=>
 load1 False v2 h fun v3 h=>
 load1 False a1 h fun v4 h=>
 au False prog .eql 3 false false v3 v4 h fun v5 h=>
 κ v5 h) := by kernel_rfl
theorem WB (a0 a1:Value) (h:Heap) (κ:KQ):aM prog 317 [a0,a1] h κ = (
 ax False (Value.cells a0).toList 305 false fun o0 => aj False o0 h fun b1 h=>
 ax False (Value.cells a1).toList 83 false fun o2 => aj False o2 h fun b3 h=>
 fieldAddrB False 0 (ptrTo b1) h fun v4 h=>
 fieldAddrB False 2 v4 h fun v5 h=>
 load1 False v5 h fun v6 h=>
 CallW prog 321 [v6,(Value.func (.func 334) (Array.mk []) (Array.mk [(ptrTo b3)]))] h fun v7 h=>
 jv False .not v7 h fun v8 h=>
 κ v8 h) := by kernel_rfl
def Ev (v4:Value) (l7:List Value) (b1:Nat) (N9:List Value→Heap→Prop) (h:Heap):Prop :=
 aq False 5 v4 (slot l7 27) h fun v11 h=>
 aD False 5 v11 h fun v12 h=>
 ax False [(.int .i64 0),(.int .i64 0),(.int .i64 0),(.int .i64 0),(.int .i64 0)] 83 false fun o13 => aj False o13 h fun b14 h=>
 aI False 5 (ptrTo b14) v12 h fun bN h=>
 aH (aD none 5 (ptrTo b14) h fun v _=>some v) h fun v16 h=>
 CallW prog 238 [v16] h fun v17 h=>
 aH (some v17) h fun bR h=>
 ag (ah bR true) (fun Bt=>
 aH (some (slot l7 25)) h Bt) h fun v20 h=>
 ag (ah bR true) (fun DD=>
 aH (au none prog .lss 3 true false v20 (.int .i64 0) h fun v _=>some v) h DD) h fun v22 h=>
 ag (ah bR true) (fun DE=>
 aH (some v22) h DE) h fun v24 h=>
 ag (ah v24 false) (fun Nb=>
 aH (fieldAddrB none 4 (ptrTo b14) h fun v _=>some v) h Nb) h fun v26 h=>
 ag (ah v24 false) (fun Gy=>
 aH (load1 none v26 h fun v _=>some v) h Gy) h fun v28 h=>
 ag (ah v24 false) (fun Gz=>
 aH (fieldAddrB none 0 (ptrTo b1) h fun v _=>some v) h Gz) h fun v30 h=>
 ag (ah v24 false) (fun Gv=>
 aH (fieldAddrB none 2 v30 h fun v _=>some v) h Gv) h fun v32 h=>
 ag (ah v24 false) (fun Kl=>
 aH (load1 none v32 h fun v _=>some v) h Kl) h fun gY h=>
 ag (ah v24 false) (fun QM=>
 aH (some (slot l7 25)) h QM) h fun iP h=>
 ag (ah v24 false) (fun QN=>
 aH (aq none 5 gY iP h fun v _=>some v) h QN) h fun mu h=>
 ag (ah v24 false) (fun U7=>
 aH (fieldAddrB none 4 mu h fun v _=>some v) h U7) h fun v40 h=>
 ag (ah v24 false) (fun K41=>
 aH (load1 none v40 h fun v _=>some v) h K41) h fun iD h=>
 ag (ah v24 false) (fun K43=>
 aH (au none prog .lss 3 false false v28 iD h fun v _=>some v) h K43) h fun v44 h=>
 ag (ah bR true) (fun ZY=>
 aH (bf none v24 (.bool true) v44 h fun v _=>some v) h ZY) h fun v46 h=>
 aH (bf none bR v46 (.bool false) h fun v _=>some v) h fun jQ h=>
 ay jQ (
 N9 [(slot l7 27),v11,v12,(ptrTo b14),(slot l7 27),v16,v17,bR,v20,v22,v24,v26,v28,v30,v32,gY,iP,mu,v40,iD,v44,v46,jQ,(slot l7 27),(slot l7 27)] h) (
 N9 [(slot l7 27),v11,v12,(ptrTo b14),(slot l7 27),v16,v17,bR,v20,v22,v24,v26,v28,v30,v32,gY,iP,mu,v40,iD,v44,v46,jQ,(slot l7 24),(slot l7 25)] h)
def xJ (l7:List Value) (b1:Nat) (N49:List Value→Heap→Prop) (h:Heap):Prop :=
 au False prog .lss 3 true false (slot l7 25) (.int .i64 0) h fun v51 h=>
 ay v51 (
 fieldAddrB False 0 (ptrTo b1) h fun nR h=>
 fieldAddrB False 2 nR h fun v53 h=>
 load1 False v53 h fun v54 h=>
 CallW prog 268 [v54,(Value.func (.func 335) (Array.mk []) (Array.mk []))] h fun v55 h=>
 N49 [(slot l7 25),v51,nR,v53,v54,v55,v55] h) (
 N49 [(slot l7 25),v51,undef,undef,undef,undef,(slot l7 25)] h)
def xK (l7:List Value) (v5 v4:Value) (b1:Nat) (N6:List Value→Heap→Prop) (h:Heap) (κ:KQ):Prop :=
 au False prog .lss 3 false false (slot l7 27) v5 h fun v8 h=>
 ay v8 (
 dD (fun N9=>
 Ev v4 l7 b1 N9 h) fun mY h=>
 au False prog .add 3 true false (slot l7 27) (.int .i64 1) h fun jH h=>
 N6 [v8,(slot mY 0),(slot mY 1),(slot mY 2),(slot mY 3),(slot mY 4),(slot mY 5),(slot mY 6),(slot mY 7),(slot mY 8),(slot mY 9),(slot mY 10),(slot mY 11),(slot mY 12),(slot mY 13),(slot mY 14),(slot mY 15),(slot mY 16),(slot mY 17),(slot mY 18),(slot mY 19),(slot mY 20),(slot mY 21),(slot mY 22),(slot mY 23),(slot mY 24),jH,jH] h) (
 dD (fun N49=>
 xJ l7 b1 N49 h) fun l50 h=>
 κ (slot l50 6) h)
theorem WC (a0:Value) (h:Heap) (κ:KQ):aM prog 318 [a0] h κ = (
 ax False (Value.cells a0).toList 305 false fun o0 => aj False o0 h fun b1 h=>
 fieldAddrB False 0 (ptrTo b1) h fun v2 h=>
 fieldAddrB False 2 v2 h fun v3 h=>
 load1 False v3 h fun v4 h=>
 br False v4 h fun v5 h=>
 b6 [undef,undef,undef,undef,undef,undef,undef,undef,undef,undef,undef,undef,undef,undef,undef,undef,undef,undef,undef,undef,undef,undef,undef,undef,undef,(.int .i64 (-1)),undef,(.int .i64 0)] h fun l7 h N6=>
 xK l7 v5 v4 b1 N6 h κ) := by kernel_rfl
theorem WD (a0 a1:Value) (h:Heap) (κ:KQ):aM prog 319 [a0,a1] h κ = (
 ax False (Value.cells a0).toList 81 false fun o0 => aj False o0 h fun b1 h=>
 ax False [(.int .i64 0),(.int .i64 0),(.slice none 0 0),(.int .i64 0)] 81 false fun o2 => aj False o2 h fun b3 h=>
 aD False 4 (ptrTo b1) h fun v4 h=>
 CallW prog 287 [v4] h fun v5 h=>
 ax False [(.int .i64 0),(.int .i64 0),(.slice none 0 0),(.int .i64 0)] 305 false fun o6 => aj False o6 h fun b7 h=>
 aI False 4 (ptrTo b7) v5 h fun v8 h=>
 aD False 4 (ptrTo b7) h fun v9 h=>
 CallW prog 236 [v9,a1] h fun v10 h=>
 au False prog .lss 3 true false v10 (.int .i64 0) h fun v11 h=>
 ay v11 (
 bC False [] [] [(.int .i64 0),(.int .i64 0),(.slice none 0 0),(.int .i64 0)] fun Nc=>
 aI False 4 (ptrTo b3) (Value.agg (Array.mk Nc)) h fun bI h=>
 aD False 4 (ptrTo b3) h fun bO _ => κ (Value.tuple (Array.mk [bO,(.int .i64 5)])) h) (
 aD False 4 (ptrTo b7) h fun bN h=>
 CallW prog 288 [bN,a1] h fun v16 h=>
 aI False 4 (ptrTo b3) v16 h fun v17 h=>
 aD False 4 (ptrTo b3) h fun bR _ => κ (Value.tuple (Array.mk [bR,(.int .i64 0)])) h)) := by kernel_rfl
theorem WE (a0:Value) (h:Heap) (κ:KQ):aM prog 320 [a0] h κ = (
 au False prog .neq 37 true false a0 (.int .i64 0) h fun v0 h=>
 ag (ah v0 true) (fun K1=>
 K1 a0 h) h fun v2 h=>
 ag (ah v0 true) (fun K3=>
 CallW prog 73 [v2] h K3) h fun v4 h=>
 bf False v0 v4 (.bool false) h fun v5 h=>
 κ v5 h) := by kernel_rfl
theorem WG (a0 a1 a2:Value) (h:Heap) (κ:KQ):aM prog 322 [a0,a1,a2] h κ = (
 ax False (Value.cells a0).toList 83 false fun o0 => aj False o0 h fun b1 h=>
 fieldAddrB False 0 (ptrTo b1) h fun v2 h=>
 load1 False v2 h fun v3 h=>
 load1 False a1 h fun v4 h=>
 au False prog .eql 3 false false v3 v4 h fun v5 h=>
 ag (ah v5 false) (fun K6=>
 fieldAddrB False 1 (ptrTo b1) h K6) h fun v7 h=>
 ag (ah v5 false) (fun K8=>
 load1 False v7 h K8) h fun v9 h=>
 ag (ah v5 false) (fun oS=>
 load1 False a2 h oS) h fun v11 h=>
 ag (ah v5 false) (fun mN=>
 au False prog .eql 3 false false v9 v11 h mN) h fun bI h=>
 bf False v5 (.bool true) bI h fun bO h=>
 κ bO h) := by kernel_rfl
theorem WH (a0 a1:Value) (h:Heap) (κ:KQ):aM prog 334 [a0,a1] h κ = (
 ax False (Value.cells a0).toList 83 false fun o0 => aj False o0 h fun b1 h=>
 fieldAddrB False 0 (ptrTo b1) h fun v2 h=>
 load1 False v2 h fun v3 h=>
 fieldAddrB False 0 a1 h fun v4 h=>
 load1 False v4 h fun v5 h=>
 au False prog .neq 3 false false v3 v5 h fun v6 h=>
 ag (ah v6 true) (fun K7=>
 aD False 5 (ptrTo b1) h K7) h fun v8 h=>
 ag (ah v6 true) (fun K9=>
 CallW prog 237 [v8] h K9) h fun v10 h=>
 bf False v6 v10 (.bool false) h fun v11 h=>
 ag (ah v11 true) (fun mN=>
 fieldAddrB False 2 (ptrTo b1) h mN) h fun bI h=>
 ag (ah v11 true) (fun ry=>
 load1 False bI h ry) h fun bN h=>
 ag (ah v11 true) (fun uS=>
 fieldAddrB False 3 a1 h uS) h fun v17 h=>
 ag (ah v11 true) (fun Bx=>
 load1 False v17 h Bx) h fun v19 h=>
 ag (ah v11 true) (fun DI=>
 CallW prog 210 [bN,v19] h DI) h fun v21 h=>
 ag (ah v11 true) (fun K22=>
 jv False .not v21 h K22) h fun v23 h=>
 bf False v11 v23 (.bool false) h fun v24 h=>
 κ v24 h) := by kernel_rfl
theorem WI (a0:Value) (h:Heap) (κ:KQ):aM prog 335 [a0] h κ = (
 ax False (Value.cells a0).toList 83 false fun o0 => aj False o0 h fun b1 h=>
 aD False 5 (ptrTo b1) h fun v2 h=>
 CallW prog 237 [v2] h fun v3 h=>
 jv False .not v3 h fun v4 h=>
 κ v4 h) := by kernel_rfl
theorem WJ (a0 a1 a2:Value) (h:Heap) (κ:KQ):aM prog 366 [a0,a1,a2] h κ = (
 aH (some a0) h fun v0 h=>
 aH (some a1) h fun v1 h=>
 aH (aq none 1 v0 v1 h fun v _=>some v) h fun v2 h=>
 aH (load1 none v2 h fun v _=>some v) h fun v3 h=>
 aH (some a0) h fun v4 h=>
 aH (some a2) h fun v5 h=>
 aH (aq none 1 v4 v5 h fun v _=>some v) h fun v6 h=>
 aH (load1 none v6 h fun v _=>some v) h fun v7 h=>
 aH (au none prog .lss 3 false false v3 v7 h fun v _=>some v) h fun v8 h=>
 κ v8 h) := by kernel_rfl
theorem WL (a0 a1 a2:Value) (h:Heap) (κ:KQ):aM prog 368 [a0,a1,a2] h κ = (
 aH (some a0) h fun v0 h=>
 aH (some a1) h fun v1 h=>
 aH (some a0) h fun v2 h=>
 aH (some a2) h fun v3 h=>
 aH (some a0) h fun v4 h=>
 aH (some a2) h fun v5 h=>
 aH (aq none 1 v4 v5 h fun v _=>some v) h fun v6 h=>
 aH (load1 none v6 h fun v _=>some v) h fun v7 h=>
 aH (some a0) h fun v8 h=>
 aH (some a1) h fun v9 h=>
 aH (aq none 1 v8 v9 h fun v _=>some v) h fun v10 h=>
 aH (load1 none v10 h fun v _=>some v) h fun v11 h=>
 aH (aq none 1 v0 v1 h fun v _=>some v) h fun v12 h=>
 aI False 1 v12 v7 h fun bI h=>
 dM ((gz (some a0) v2) && ((gz (some a2) v3) && true)) (aH (aq none 1 v2 v3 h fun v _=>some v) h fun bO h=>
 aI False 1 bO v11 h fun bN h=>
 κ (Value.tuple (Array.mk [])) h)) := by kernel_rfl
theorem WM (a0:Value) (h:Heap) (κ:KQ):aM prog 369 [a0] h κ = (
 aV False a0 h fun v0 h=>
 fieldAddrB False 0 v0 h fun v1 h=>
 load1 False v1 h fun v2 h=>
 CallW prog 137 [v2] h fun v3 h=>
 au False prog .sub 3 true false v3 (.int .i64 1) h fun v4 h=>
 aV False a0 h fun v5 h=>
 fieldAddrB False 0 v5 h fun v6 h=>
 load1 False v6 h fun v7 h=>
 aq False 1 v7 v4 h fun v8 h=>
 load1 False v8 h fun v9 h=>
 aV False a0 h fun v10 h=>
 fieldAddrB False 0 v10 h fun v11 h=>
 load1 False v11 h fun v12 h=>
 sliceB False 3 1 v12 none (some v4) none h fun bI h=>
 aV False a0 h fun bO h=>
 fieldAddrB False 0 bO h fun bN h=>
 aI False 1 bN bI h fun v16 h=>
 κ (Value.iface 3 v9) h) := by kernel_rfl
def Ew (a0 v1:Value) (h:Heap) (κ:KQ):Prop :=
 aV False a0 h fun v3 h=>
 fieldAddrB False 0 v3 h fun v4 h=>
 load1 False v4 h fun v5 h=>
 bC False [(0,1)] [v1] (aU [(.int .i64 0)] 1) fun cs8 => ax False cs8 3 false fun o6 => aj False o6 h fun b7 h=>
 bu False 3 1 [(.int .i64 0)] false v5 (sliceTo 1 1 b7) h fun v9 h=>
 aV False a0 h fun v10 h=>
 fieldAddrB False 0 v10 h fun v11 h=>
 aI False 1 v11 v9 h fun v12 h=>
 κ (Value.tuple (Array.mk [])) h
theorem WN (a0 a1:Value) (h:Heap) (κ:KQ):aM prog 370 [a0,a1] h κ = (
 eD False 3 (.int .i64 0) true a1 h fun v0 h=>
 av False 0 v0 h fun v1 h=>
 av False 1 v0 h fun v2 h=>
 ay v2 (
 Ew a0 v1 h κ) (
 κ (Value.tuple (Array.mk [])) h)) := by kernel_rfl
end
end Go.Proofs
