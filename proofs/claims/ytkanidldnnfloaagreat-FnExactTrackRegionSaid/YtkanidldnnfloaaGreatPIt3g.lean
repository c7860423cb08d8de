/- A part of the proof: It3g. No conditions. -/
import Derived.Test.YtkanidldnnfloaaGreatPIt2g
import Derived.Test.YtkanidldnnfloaaGreatPG7
import Derived.Test.YtkanidldnnfloaaGreatChecked
import Derived.KernelRfl
set_option linter.unusedVariables false
set_option maxRecDepth 100000
namespace Go.Proofs.YtkanidldnnfloaaGreat.P.It
open Am
noncomputable section
def Ew_szStopS:Env:=mkEnv C tab0 [0,1,2,3] 12 (fun x=>none) (Hints.mk (fun x x_1=>none) (fun s=>Nat.testBit 0 s) fun x=>[])
 [(ty22,Mode.ro),(ty3,Mode.ro)]
def Kw_szStopS:=endK C [(ty22,Mode.ro),(ty3,Mode.ro)] [(ty3,0)] [RV.tmp 4]
def Sw_szStopS (a0:List (Rat×Rat×Int×Int)) (a1:Int):Option ((Int×PUnit)×PUnit):=Fw_szStopS.sem (a0,a1,())
theorem Sw_szStopS_eq (a0:List (Rat×Rat×Int×Int)) (a1:Int):Sw_szStopS a0 a1 =
 bif decide (IntKind.i64.wrap (a1 - (↑a0.length:Int)) < 0) then some ((-1,()),())
else some ((IntKind.i64.wrap (a1 - (↑a0.length:Int)),()),()):=by kernel_rfl
def Ew_toRatio:Env:=mkEnv C tab_w_szStopS [0,1,2,3,4,7] 11 (fun x=>none)
 (Hints.mk (fun x x_1=>none) (fun s=>Nat.testBit 0 s) fun x=>[]) [(ty91,Mode.ro)]
def Kw_toRatio:=endK C [(ty91,Mode.ro)] [(ty73,0)] [RV.cell 2 73]
def Sw_toRatio (a0:Rat):Option ((Rat×PUnit)×PUnit):=Fw_toRatio.sem (a0,())
theorem Sw_toRatio_eq (a0:Rat):Sw_toRatio a0 =
 some (((a0.fst,a0.snd),()),()):=by kernel_rfl
def Ew_toStop:Env:=mkEnv C tab_w_toRatio [0,1,2,3,4,8,12] 17 (fun x=>none)
 (Hints.mk (fun x x_1=>none) (fun s=>Nat.testBit 0 s) fun x=>[]) [(ty93,Mode.ro)]
def Kw_toStop:=endK C [(ty93,Mode.ro)] [(ty81,0)] [RV.cell 2 81]
def Sw_toStop (a0:Rat×Rat×Int×Int):Option (((Rat×Rat×Int×Int)×PUnit)×PUnit):=Fw_toStop.sem (a0,())
theorem Sw_toStop_eq (a0:Rat×Rat×Int×Int):Sw_toStop a0 =
 (Sw_toRatio a0.fst).bind fun y =>
 (Sw_toRatio a0.snd.fst).bind fun y_1 =>
 (Sw_toRatio a0.snd.snd).bind fun y_2=>some (((y.fst.fst,y_1.fst.fst,y_2.fst.fst),()),()):=by kernel_rfl
def Ew_toStopS:Env:=mkEnv C tab_w_toStop [0,1,3,4,14,16,18] 23 (fun k=>bif k == 1000003 then some 25 else none)
 (Hints.mk (fun x x_1=>none) (fun s=>Nat.testBit 0 s) fun x=>[]) [(ty22,Mode.ro)]
def Kw_toStopS:=endK C [(ty22,Mode.ro)] [(ty29,1)] [RV.tmp 2]
def Lw_toStopS_3 (x0:List (Rat×Rat×Int×Int)) (x3:List (Rat×Rat×Int×Int)) (x4:Int):Option ((List (Rat×Rat×Int×Int)×PUnit)×PUnit):=loopAt Ew_toStopS [1,1,0,1,0] (Tryz.f8.body.getD .skip) Kw_toStopS (V.d none 0 ty22 x0::dd 2 (V.d none (ty81.depth+1) (Ty.slice 81 ty81) x3::V.d none 0 (Ty.int IntKind.i64) x4::dd 18 ([])))
def Sw_toStopS (a0:List (Rat×Rat×Int×Int)):Option ((List (Rat×Rat×Int×Int)×PUnit)×PUnit):=Fw_toStopS.sem (a0,())
def jw_toStopS:List (Nat×List Nat):=[(1000003,[1,1,0,1,0])]
theorem jw_toStopS_ok:okB jw_toStopS (Tryz.f8.body.getD .skip) []=true:=by kernel_rfl
theorem Lw_toStopS_3_eq (x0:List (Rat×Rat×Int×Int)) (x3:List (Rat×Rat×Int×Int)) (x4:Int):Lw_toStopS_3 x0 x3 x4 =
 bif decide (x4 < (↑x0.length:Int)) then
 (getI x0 x4).bind fun y =>
 (Sw_toStop y).bind fun y =>
  (getI x3 x4).bind fun y_1 =>
  (getI x3 x4).bind fun y_2 =>
   (getI x3 x4).bind fun y_3 =>
   (some (x3.set x4.toNat y.fst.fst)).bind fun y=>Lw_toStopS_3 x0 y (IntKind.i64.wrap (x4+1))
else some ((x3,()),()):=(turn_eq jw_toStopS_ok [1,1,0,1,0] (by kernel_rfl) _).trans (by kernel_rfl)
theorem Sw_toStopS_eq (a0:List (Rat×Rat×Int×Int)):Sw_toStopS a0 =
 bif
 decide (0≤(↑a0.length:Int)) && decide ((↑a0.length:Int)≤(↑a0.length:Int)) &&
  decide ((↑a0.length:Int)*(↑48:Int)≤140737488355328) &&
  decide ((↑a0.length:Int)≤9223372036854775807) then
 Lw_toStopS_3 a0 (List.replicate a0.length ((0,0),(0,0),0,0)) 0
else none:=(Eq.trans (by kernel_rfl:Sw_toStopS a0=denK Ew_toStopS (Tryz.f8.body.getD .skip) Kw_toStopS (slots0 23 [(ty22,Mode.ro)] (a0,()))) (all_eq jw_toStopS_ok _)).trans (by kernel_rfl)
def Es_l1In:Env:=mkEnv C tab_w_toStopS [0,1,2,3,4,5] 15 (fun x=>none)
 (Hints.mk (fun x x_1=>none) (fun s=>Nat.testBit 0 s) fun x=>[]) [(ty3,Mode.ro),(ty3,Mode.ro),(ty3,Mode.ro)]
def Ks_l1In:=endK C [(ty3,Mode.ro),(ty3,Mode.ro),(ty3,Mode.ro)] [(ty4,0)] [RV.tmp 6]
def Ss_l1In (a0:Int) (a1:Int) (a2:Int):Option ((Bool×PUnit)×PUnit):=Fs_l1In.sem (a0,a1,a2,())
theorem Ss_l1In_eq (a0:Int) (a1:Int) (a2:Int):Ss_l1In a0 a1 a2 =
 bif decide (a0≥a1) then some ((decide (a0≤a2),()),()) else some ((false,()),()):=by kernel_rfl
def Es_IsNumber:Env:=mkEnv C tab_s_l1In [0,1] 5 (fun x=>none) (Hints.mk (fun x x_1=>none) (fun s=>Nat.testBit 0 s) fun x=>[])
 [(ty3,Mode.ro)]
def Ks_IsNumber:=endK C [(ty3,Mode.ro)] [(ty4,0)] [RV.tmp 2]
def Ss_IsNumber (a0:Int):Option ((Bool×PUnit)×PUnit):=Fs_IsNumber.sem (a0,())
theorem Ss_IsNumber_eq (a0:Int):Ss_IsNumber a0 =
 (Ss_l1In a0 (-400000000) 400000000).bind fun y=>some ((y.fst.fst,()),()):=by kernel_rfl
def Es_l1Abs:Env:=mkEnv C tab_s_IsNumber [0,1] 7 (fun x=>none) (Hints.mk (fun x x_1=>none) (fun s=>Nat.testBit 0 s) fun x=>[])
 [(ty3,Mode.ro)]
def Ks_l1Abs:=endK C [(ty3,Mode.ro)] [(ty3,0)] [RV.tmp 2]
def Ss_l1Abs (a0:Int):Option ((Int×PUnit)×PUnit):=Fs_l1Abs.sem (a0,())
theorem Ss_l1Abs_eq (a0:Int):Ss_l1Abs a0 =
 some
 ((bif true then if a0 < IntKind.i64.wrap (0 - a0) then IntKind.i64.wrap (0 - a0) else a0
  else if IntKind.i64.wrap (0 - a0) < a0 then IntKind.i64.wrap (0 - a0) else a0,
  ()),
 ()):=by kernel_rfl
def Es_GcdOf:Env:=mkEnv C tab_s_l1Abs [0,1,2,3] 21 (fun k=>bif k == 1000003 then some 3 else none)
 (Hints.mk (fun x x_1=>none) (fun s=>Nat.testBit 0 s) fun x=>[]) [(ty3,Mode.ro),(ty3,Mode.ro)]
def Ks_GcdOf:=endK C [(ty3,Mode.ro),(ty3,Mode.ro)] [(ty3,0)] [RV.tmp 4]
def Ls_GcdOf_3 (x0:Int) (x1:Int):Option ((Int×PUnit)×PUnit):=loopAt Es_GcdOf [1,1,0,0] (Tryz.f129.body.getD .skip) Ks_GcdOf (V.d none 0 ty3 x0::V.d none 0 ty3 x1::dd 19 ([]))
def Ss_GcdOf (a0:Int) (a1:Int):Option ((Int×PUnit)×PUnit):=Fs_GcdOf.sem (a0,a1,())
def js_GcdOf:List (Nat×List Nat):=[(1000003,[1,1,0,0])]
theorem js_GcdOf_ok:okB js_GcdOf (Tryz.f129.body.getD .skip) []=true:=by kernel_rfl
theorem Ls_GcdOf_3_eq (x0:Int) (x1:Int):Ls_GcdOf_3 x0 x1 =
 bif x1 != 0 then bif x1 != 0 then Ls_GcdOf_3 x1 (x0.tmod x1) else none
else (Ss_l1Abs x0).bind fun y=>some ((y.fst.fst,()),()):=(turn_eq js_GcdOf_ok [1,1,0,0] (by kernel_rfl) _).trans (by kernel_rfl)
theorem Ss_GcdOf_eq (a0:Int) (a1:Int):Ss_GcdOf a0 a1 =
 (Ss_IsNumber a0).bind fun y =>
 bif !y.fst.fst then some ((0,()),())
 else (Ss_IsNumber a1).bind fun y=>bif !y.fst.fst then some ((0,()),()) else Ls_GcdOf_3 a0 a1:=(Eq.trans (by kernel_rfl:Ss_GcdOf a0 a1=denK Es_GcdOf (Tryz.f129.body.getD .skip) Ks_GcdOf (slots0 21 [(ty3,Mode.ro),(ty3,Mode.ro)] (a0,a1,()))) (all_eq js_GcdOf_ok _)).trans (by kernel_rfl)
def Es_IsRatio:Env:=mkEnv C tab_s_GcdOf [0,1,3,7,12,14] 19 (fun x=>none)
 (Hints.mk (fun x x_1=>none) (fun s=>Nat.testBit 0 s) fun x=>[]) [(ty73,Mode.ro)]
def Ks_IsRatio:=endK C [(ty73,Mode.ro)] [(ty4,0)] [RV.tmp 2]
def Ss_IsRatio (a0:Rat):Option ((Bool×PUnit)×PUnit):=Fs_IsRatio.sem (a0,())
theorem Ss_IsRatio_eq (a0:Rat):Ss_IsRatio a0 =
 (Ss_l1In a0.snd 1 400000000).bind fun y =>
 bif y.fst.fst then
 (Ss_IsNumber a0.fst).bind fun y =>
  bif y.fst.fst then (Ss_GcdOf a0.fst a0.snd).bind fun y=>some ((y.fst.fst == 1,()),()) else some ((false,()),())
 else some ((false,()),()):=by kernel_rfl
def Es_l1Less:Env:=mkEnv C tab_s_IsRatio [0,1,2,3,5,7,10,12] 16 (fun x=>none)
 (Hints.mk (fun x x_1=>none) (fun s=>Nat.testBit 0 s) fun x=>[]) [(ty73,Mode.ro),(ty73,Mode.ro)]
def Ks_l1Less:=endK C [(ty73,Mode.ro),(ty73,Mode.ro)] [(ty4,0)] [RV.tmp 4]
def Ss_l1Less (a0:Rat) (a1:Rat):Option ((Bool×PUnit)×PUnit):=Fs_l1Less.sem (a0,a1,())
theorem Ss_l1Less_eq (a0:Rat) (a1:Rat):Ss_l1Less a0 a1 =
 some ((decide (IntKind.i64.wrap (a0.fst*a1.snd) < IntKind.i64.wrap (a1.fst*a0.snd)),()),()):=by kernel_rfl
def Es_IsTrack:Env:=mkEnv C tab_s_l1Less [0,1,3,10,12,13,18,20,21,27,29,30,39,42,43,45,47,48] 57
 (fun k=>bif k == 1000002 then some 9 else none) (Hints.mk (fun x x_1=>none) (fun s=>Nat.testBit 0 s) fun x=>[])
 [(ty29,Mode.ro)]
def Ks_IsTrack:=endK C [(ty29,Mode.ro)] [(ty4,0)] [RV.tmp 2]
def Ls_IsTrack_2 (x0:List (Rat×Rat×Int×Int)) (x3:Int):Option ((Bool×PUnit)×PUnit):=loopAt Es_IsTrack [1,0,1,0] (Tryz.f35.body.getD .skip) Ks_IsTrack (V.d none 0 ty29 x0::dd 2 (V.d none 0 (Ty.int IntKind.i64) x3::dd 53 ([])))
def Ss_IsTrack (a0:List (Rat×Rat×Int×Int)):Option ((Bool×PUnit)×PUnit):=Fs_IsTrack.sem (a0,())
def js_IsTrack:List (Nat×List Nat):=[(1000002,[1,0,1,0])]
theorem js_IsTrack_ok:okB js_IsTrack (Tryz.f35.body.getD .skip) []=true:=by kernel_rfl
theorem Ls_IsTrack_2_eq (x0:List (Rat×Rat×Int×Int)) (x3:Int):Ls_IsTrack_2 x0 x3 =
 bif decide (x3 < (↑x0.length:Int)) then
 (getI x0 x3).bind fun y =>
 (Ss_IsRatio y.fst).bind fun y =>
  bif !y.fst.fst then some ((false,()),())
  else
  (getI x0 x3).bind fun y =>
   (Ss_IsRatio y.snd.fst).bind fun y =>
   bif !y.fst.fst then some ((false,()),())
   else
    (getI x0 x3).bind fun y =>
    (Ss_IsRatio y.snd.snd).bind fun y =>
     bif !y.fst.fst then some ((false,()),())
     else
     bif decide (x3 > 0) then
      (getI x0 (IntKind.i64.wrap (x3 - 1))).bind fun y =>
      (getI x0 x3).bind fun y_1 =>
       (Ss_l1Less y.fst y_1.fst).bind fun y =>
       bif !y.fst.fst then some ((false,()),()) else Ls_IsTrack_2 x0 (IntKind.i64.wrap (x3+1))
     else Ls_IsTrack_2 x0 (IntKind.i64.wrap (x3+1))
else (Ss_l1In (↑x0.length:Int) 1 6).bind fun y=>some ((y.fst.fst,()),()):=(turn_eq js_IsTrack_ok [1,0,1,0] (by kernel_rfl) _).trans (by kernel_rfl)
theorem Ss_IsTrack_eq (a0:List (Rat×Rat×Int×Int)):Ss_IsTrack a0 =
 Ls_IsTrack_2 a0 0:=(Eq.trans (by kernel_rfl:Ss_IsTrack a0=denK Es_IsTrack (Tryz.f35.body.getD .skip) Ks_IsTrack (slots0 57 [(ty29,Mode.ro)] (a0,()))) (all_eq js_IsTrack_ok _)).trans (by kernel_rfl)
def Es_l8Legs:Env:=mkEnv C tab_s_IsTrack [0,1,3,4,8,9,11,12,24,27,29,31] 37 (fun k=>bif k == 1000005 then some 25 else none)
 (Hints.mk (fun x x_1=>none) (fun s=>Nat.testBit 0 s) fun x=>[]) [(ty29,Mode.ro)]
def Ks_l8Legs:=endK C [(ty29,Mode.ro)] [(ty70,2)] [RV.tmp 2]
def Ls_l8Legs_5 (x0:List (Rat×Rat×Int×Int)) (x3:List (List (Rat×Rat×Int×Int))) (x4:Int):Option ((List (List (Rat×Rat×Int×Int))×PUnit)×PUnit):=loopAt Es_l8Legs [1,1,1,0,1,0] (Tryz.f36.body.getD .skip) Ks_l8Legs (V.d none 0 ty29 x0::dd 2 (V.d none (ty29.depth+1) (Ty.slice 29 ty29) x3::V.d none 0 (Ty.int IntKind.i64) x4::dd 32 ([])))
def Ss_l8Legs (a0:List (Rat×Rat×Int×Int)):Option ((List (List (Rat×Rat×Int×Int))×PUnit)×PUnit):=Fs_l8Legs.sem (a0,())
def js_l8Legs:List (Nat×List Nat):=[(1000005,[1,1,1,0,1,0])]
theorem js_l8Legs_ok:okB js_l8Legs (Tryz.f36.body.getD .skip) []=true:=by kernel_rfl
theorem Ls_l8Legs_5_eq (x0:List (Rat×Rat×Int×Int)) (x3:List (List (Rat×Rat×Int×Int))) (x4:Int):Ls_l8Legs_5 x0 x3 x4 =
 bif decide (x4 < (↑x0.length:Int)) then
 (getI x0 (IntKind.i64.wrap (x4 - 1))).bind fun y =>
 (getI x0 x4).bind fun y_1 =>
  bif decide ((x3.length+1)*24≤140737488355328) then
  Ls_l8Legs_5 x0 (x3++[[y,y_1]]) (IntKind.i64.wrap (x4+1))
  else none
else some ((x3,()),()):=(turn_eq js_l8Legs_ok [1,1,1,0,1,0] (by kernel_rfl) _).trans (by kernel_rfl)
theorem Ss_l8Legs_eq (a0:List (Rat×Rat×Int×Int)):Ss_l8Legs a0 =
 bif (↑a0.length:Int) == 1 then (getI a0 0).bind fun y=>(getI a0 0).bind fun y_1=>some (([[y,y_1]],()),())
else Ls_l8Legs_5 a0 [] 1:=(Eq.trans (by kernel_rfl:Ss_l8Legs a0=denK Es_l8Legs (Tryz.f36.body.getD .skip) Ks_l8Legs (slots0 37 [(ty29,Mode.ro)] (a0,()))) (all_eq js_l8Legs_ok _)).trans (by kernel_rfl)
def Es_l1Whole:Env:=mkEnv C tab_s_l8Legs [0,1,2] 5 (fun x=>none) (Hints.mk (fun x x_1=>none) (fun s=>Nat.testBit 0 s) fun x=>[])
 [(ty3,Mode.ro)]
def Ks_l1Whole:=endK C [(ty3,Mode.ro)] [(ty73,0)] [RV.cell 2 73]
def Ss_l1Whole (a0:Int):Option ((Rat×PUnit)×PUnit):=Fs_l1Whole.sem (a0,())
theorem Ss_l1Whole_eq (a0:Int):Ss_l1Whole a0 =
 some (((a0,1),()),()):=by kernel_rfl
def Es_NegateRatio:Env:=mkEnv C tab_s_l1Whole [0,1,2,7,10] 13 (fun x=>none)
 (Hints.mk (fun x x_1=>none) (fun s=>Nat.testBit 0 s) fun x=>[]) [(ty73,Mode.ro)]
def Ks_NegateRatio:=endK C [(ty73,Mode.ro)] [(ty73,0)] [RV.cell 2 73]
def Ss_NegateRatio (a0:Rat):Option ((Rat×PUnit)×PUnit):=Fs_NegateRatio.sem (a0,())
theorem Ss_NegateRatio_eq (a0:Rat):Ss_NegateRatio a0 =
 (Ss_IsRatio a0).bind fun y =>
 bif !y.fst.fst then some (((0,0),()),()) else some (((IntKind.i64.wrap (0 - a0.fst),a0.snd),()),()):=by kernel_rfl
def Es_l2Make:Env:=mkEnv C tab_s_NegateRatio [0,1,2,3,4,5,6,7,8] 40 (fun k=>bif k == 1000007 then some 115 else none)
 (Hints.mk (fun x x_1=>none) (fun s=>Nat.testBit 0 s) fun x=>[]) [(ty3,Mode.ro),(ty3,Mode.ro)]
def Ks_l2Make:=endK C [(ty3,Mode.ro),(ty3,Mode.ro)] [(ty73,0)] [RV.cell 4 73]
def Ls_l2Make_7 (x0:Int) (x1:Int) (x4:Rat) (x5:Int) (x6:Int):Option ((Rat×PUnit)×PUnit):=loopAt Es_l2Make [1,1,1,1,1,0,0] (Tryz.f192.body.getD .skip) Ks_l2Make (V.d none 0 (Ty.int IntKind.i64) x0::V.d none 0 (Ty.int IntKind.i64) x1::dd 2 (V.box none ty73.depth ty73 x4::V.d none 0 (Ty.int IntKind.i64) x5::V.d none 0 (Ty.int IntKind.i64) x6::dd 33 ([])))
def Ss_l2Make (a0:Int) (a1:Int):Option ((Rat×PUnit)×PUnit):=Fs_l2Make.sem (a0,a1,())
def js_l2Make:List (Nat×List Nat):=[(1000007,[1,1,1,1,1,0,0])]
theorem js_l2Make_ok:okB js_l2Make (Tryz.f192.body.getD .skip) []=true:=by kernel_rfl
theorem Ls_l2Make_7_eq (x0:Int) (x1:Int) (x4:Rat) (x5:Int) (x6:Int):Ls_l2Make_7 x0 x1 x4 x5 x6 =
 bif x6 != 0 then bif x6 != 0 then Ls_l2Make_7 x0 x1 x4 x6 (x5.tmod x6) else none
else
 (Ss_l1Abs x5).bind fun y =>
 bif y.fst.fst != 0 then
  bif y.fst.fst != 0 then
  (Ss_IsRatio (IntKind.i64.wrap (x0.tdiv y.fst.fst),IntKind.i64.wrap (x1.tdiv y.fst.fst))).bind fun y_1 =>
   bif !y_1.fst.fst then some (((0,0),()),())
   else some (((IntKind.i64.wrap (x0.tdiv y.fst.fst),IntKind.i64.wrap (x1.tdiv y.fst.fst)),()),())
  else none
 else none:=(turn_eq js_l2Make_ok [1,1,1,1,1,0,0] (by kernel_rfl) _).trans (by kernel_rfl)
theorem Ss_l2Make_eq (a0:Int) (a1:Int):Ss_l2Make a0 a1 =
 bif a1 == 0 then some (((0,0),()),())
else
 bif decide (a1 < 0) then
 Ls_l2Make_7 (IntKind.i64.wrap (0 - a0)) (IntKind.i64.wrap (0 - a1)) (0,0) (IntKind.i64.wrap (0 - a0))
  (IntKind.i64.wrap (0 - a1))
 else Ls_l2Make_7 a0 a1 (0,0) a0 a1:=(Eq.trans (by kernel_rfl:Ss_l2Make a0 a1=denK Es_l2Make (Tryz.f192.body.getD .skip) Ks_l2Make (slots0 40 [(ty3,Mode.ro),(ty3,Mode.ro)] (a0,a1,()))) (all_eq js_l2Make_ok _)).trans (by kernel_rfl)
def Es_AddRatios:Env:=mkEnv C tab_s_l2Make [0,1,2,3,4,14,16,19,21,25,27] 31 (fun x=>none)
 (Hints.mk (fun x x_1=>none) (fun s=>Nat.testBit 0 s) fun x=>[]) [(ty73,Mode.ro),(ty73,Mode.ro)]
def Ks_AddRatios:=endK C [(ty73,Mode.ro),(ty73,Mode.ro)] [(ty73,0)] [RV.cell 4 73]
def Ss_AddRatios (a0:Rat) (a1:Rat):Option ((Rat×PUnit)×PUnit):=Fs_AddRatios.sem (a0,a1,())
theorem Ss_AddRatios_eq (a0:Rat) (a1:Rat):Ss_AddRatios a0 a1 =
 (Ss_IsRatio a0).bind fun y =>
 bif !y.fst.fst then some (((0,0),()),())
 else
 (Ss_IsRatio a1).bind fun y =>
  bif !y.fst.fst then some (((0,0),()),())
  else
  (Ss_l2Make (IntKind.i64.wrap (IntKind.i64.wrap (a0.fst*a1.snd)+IntKind.i64.wrap (a1.fst*a0.snd)))
    (IntKind.i64.wrap (a0.snd*a1.snd))).bind
   fun y=>some ((y.fst.fst,()),()):=by kernel_rfl
def Es_DivideRatios:Env:=mkEnv C tab_s_AddRatios [0,1,2,3,4,14,19,21,24,26] 30 (fun x=>none)
 (Hints.mk (fun x x_1=>none) (fun s=>Nat.testBit 0 s) fun x=>[]) [(ty73,Mode.ro),(ty73,Mode.ro)]
def Ks_DivideRatios:=endK C [(ty73,Mode.ro),(ty73,Mode.ro)] [(ty73,0)] [RV.cell 4 73]
def Ss_DivideRatios (a0:Rat) (a1:Rat):Option ((Rat×PUnit)×PUnit):=Fs_DivideRatios.sem (a0,a1,())
theorem Ss_DivideRatios_eq (a0:Rat) (a1:Rat):Ss_DivideRatios a0 a1 =
 (Ss_IsRatio a0).bind fun y =>
 bif !y.fst.fst then some (((0,0),()),())
 else
 (Ss_IsRatio a1).bind fun y =>
  bif !y.fst.fst then some (((0,0),()),())
  else
  bif a1.fst == 0 then some (((0,0),()),())
  else
   (Ss_l2Make (IntKind.i64.wrap (a0.fst*a1.snd)) (IntKind.i64.wrap (a0.snd*a1.fst))).bind fun y =>
   some ((y.fst.fst,()),()):=by kernel_rfl
def Es_MultiplyRatios:Env:=mkEnv C tab_s_DivideRatios [0,1,2,3,4,14,16,19,21] 25 (fun x=>none)
 (Hints.mk (fun x x_1=>none) (fun s=>Nat.testBit 0 s) fun x=>[]) [(ty73,Mode.ro),(ty73,Mode.ro)]
def Ks_MultiplyRatios:=endK C [(ty73,Mode.ro),(ty73,Mode.ro)] [(ty73,0)] [RV.cell 4 73]
def Ss_MultiplyRatios (a0:Rat) (a1:Rat):Option ((Rat×PUnit)×PUnit):=Fs_MultiplyRatios.sem (a0,a1,())
theorem Ss_MultiplyRatios_eq (a0:Rat) (a1:Rat):Ss_MultiplyRatios a0 a1 =
 (Ss_IsRatio a0).bind fun y =>
 bif !y.fst.fst then some (((0,0),()),())
 else
 (Ss_IsRatio a1).bind fun y =>
  bif !y.fst.fst then some (((0,0),()),())
  else
  (Ss_l2Make (IntKind.i64.wrap (a0.fst*a1.fst)) (IntKind.i64.wrap (a0.snd*a1.snd))).bind fun y =>
   some ((y.fst.fst,()),()):=by kernel_rfl
def Es_l8Through:Env:=mkEnv C tab_s_MultiplyRatios [0,1,2,3,4,5,6,7,8,9] 27 (fun x=>none)
 (Hints.mk (fun x x_1=>none) (fun s=>Nat.testBit 0 s) fun x=>[])
 [(ty73,Mode.ro),(ty73,Mode.ro),(ty73,Mode.ro),(ty73,Mode.ro)]
def Ks_l8Through:=endK C [(ty73,Mode.ro),(ty73,Mode.ro),(ty73,Mode.ro),(ty73,Mode.ro)] [(ty75,0)] [RV.cell 8 75]
def Ss_l8Through (a0:Rat) (a1:Rat) (a2:Rat) (a3:Rat):Option (((Rat×Int×Int)×PUnit)×PUnit):=Fs_l8Through.sem (a0,a1,a2,a3,())
theorem Ss_l8Through_eq (a0:Rat) (a1:Rat) (a2:Rat) (a3:Rat):Ss_l8Through a0 a1 a2 a3 =
 (Ss_NegateRatio a1).bind fun y =>
 (Ss_AddRatios a3 y.fst.fst).bind fun y =>
 (Ss_NegateRatio a0).bind fun y_1 =>
  (Ss_AddRatios a2 y_1.fst.fst).bind fun y_2 =>
  (Ss_DivideRatios y.fst.fst y_2.fst.fst).bind fun y =>
   (Ss_MultiplyRatios y.fst.fst a0).bind fun y_3 =>
   (Ss_NegateRatio y_3.fst.fst).bind fun y_4 =>
    (Ss_AddRatios a1 y_4.fst.fst).bind fun y_5=>some (((y.fst.fst,y_5.fst.fst),()),()):=by kernel_rfl
def Es_l8Leg:Env:=mkEnv C tab_s_l8Through [0,1,2,3,4,5,7,8,9,11,13,15,18,20,22,24,29,33,38,43] 47 (fun x=>none)
 (Hints.mk (fun x x_1=>none) (fun s=>Nat.testBit 0 s) fun x=>[]) [(ty81,Mode.ro),(ty81,Mode.ro)]
def Ks_l8Leg:=endK C [(ty81,Mode.ro),(ty81,Mode.ro)] [(ty75,0),(ty75,0),(ty4,0)] [RV.cell 4 75,RV.cell 5 75,RV.tmp 6]
def Ss_l8Leg (a0:Rat×Rat×Int×Int) (a1:Rat×Rat×Int×Int):Option (((Rat×Int×Int)×(Rat×Int×Int)×Bool×PUnit)×PUnit):=Fs_l8Leg.sem (a0,a1,())
theorem Ss_l8Leg_eq (a0:Rat×Rat×Int×Int) (a1:Rat×Rat×Int×Int):Ss_l8Leg a0 a1 =
 (Ss_l8Through a0.fst a0.snd.fst a1.fst a1.snd.fst).bind fun y =>
 (Ss_l8Through a0.fst a0.snd.snd a1.fst a1.snd.snd).bind fun y_1 =>
 (Ss_IsRatio y.fst.fst.fst).bind fun y_2 =>
  bif y_2.fst.fst then
  (Ss_IsRatio y.fst.fst.snd).bind fun y_3 =>
   bif y_3.fst.fst then
   (Ss_IsRatio y_1.fst.fst.fst).bind fun y_4 =>
    bif y_4.fst.fst then
    (Ss_IsRatio y_1.fst.fst.snd).bind fun y_5=>some ((y.fst.fst,y_1.fst.fst,y_5.fst.fst,()),())
    else some ((y.fst.fst,y_1.fst.fst,false,()),())
   else some ((y.fst.fst,y_1.fst.fst,false,()),())
  else some ((y.fst.fst,y_1.fst.fst,false,()),()):=by kernel_rfl
def Es_l8Lines:Env:=mkEnv C tab_s_l8Leg [0,1,2,3,5,6,7,8,9,10,12,13,14,18,19,20,24,25,26,29,30,31,33,34] 43
 (fun x=>none)
 (Hints.mk
 (fun d i =>
  bif d == 29 then bif i == 0 then some 37 else bif i == 1 then some 38 else bif i == 2 then some 39 else none
  else none)
 (fun s=>Nat.testBit 0 s) fun x=>[])
 [(ty29,Mode.ro)]
def Ks_l8Lines:=endK C [(ty29,Mode.ro)] [(ty75,0),(ty75,0),(ty4,0)] [RV.cell 2 75,RV.cell 3 75,RV.tmp 4]
def Ss_l8Lines (a0:List (Rat×Rat×Int×Int)):Option (((Rat×Int×Int)×(Rat×Int×Int)×Bool×PUnit)×PUnit):=Fs_l8Lines.sem (a0,())
theorem Ss_l8Lines_eq (a0:List (Rat×Rat×Int×Int)):Ss_l8Lines a0 =
 (getI a0 0).bind fun y =>
 (getI a0 1).bind fun y_1 =>
 bif y.fst.fst == y_1.fst.fst && y.fst.snd == y_1.fst.snd then
  (Ss_l1Whole 0).bind fun y =>
  (getI a0 0).bind fun y_2 =>
   (Ss_l1Whole 0).bind fun y_3 =>
   (getI a0 0).bind fun y_4=>some (((y.fst.fst,y_2.snd.fst),(y_3.fst.fst,y_4.snd.snd),true,()),())
 else
  (getI a0 0).bind fun y =>
  (getI a0 1).bind fun y_2 =>
   (Ss_l8Leg y y_2).bind fun y=>some ((y.fst.fst,y.fst.snd.fst,y.fst.snd.snd.fst,()),()):=by kernel_rfl
def Es_l2Gcd:Env:=mkEnv C tab_s_l8Lines [0,1,2,3,5,6,7,16,18] 28
 (fun k=>bif k == 1000003 then some 97 else bif k == 1000006 then some 225 else none)
 (Hints.mk (fun x x_1=>none) (fun s=>Nat.testBit 0 s) fun x=>[]) [(ty59,Mode.ro),(ty3,Mode.ro)]
def Ks_l2Gcd:=endK C [(ty59,Mode.ro),(ty3,Mode.ro)] [(ty3,0)] [RV.tmp 4]
def Ls_l2Gcd_6 (x0:List Int) (x5:Int) (x6:Int) (x7:Int):Option ((Int×PUnit)×PUnit):=loopAt Es_l2Gcd [1,1,0,1,0,0,1,0,0,1,0] (Tryz.f88.body.getD .skip) Ks_l2Gcd (V.d none 0 ty59 x0::dd 4 (V.d none 0 ty3 x5::V.d none 0 (Ty.int IntKind.i64) x6::V.d none 0 ty3 x7::dd 20 ([])))
def Ls_l2Gcd_3 (x0:List Int) (x5:Int) (x6:Int):Option ((Int×PUnit)×PUnit):=loopAt Es_l2Gcd [1,1,0,1,0] (Tryz.f88.body.getD .skip) Ks_l2Gcd (V.d none 0 ty59 x0::dd 4 (V.d none 0 ty3 x5::V.d none 0 (Ty.int IntKind.i64) x6::dd 21 ([])))
def Ss_l2Gcd (a0:List Int) (a1:Int):Option ((Int×PUnit)×PUnit):=Fs_l2Gcd.sem (a0,a1,())
def js_l2Gcd:List (Nat×List Nat):=[(1000003,[1,1,0,1,0]),(1000006,[1,1,0,1,0,0,1,0,0,1,0])]
theorem js_l2Gcd_ok:okB js_l2Gcd (Tryz.f88.body.getD .skip) []=true:=by kernel_rfl
theorem Ls_l2Gcd_6_eq (x0:List Int) (x5:Int) (x6:Int) (x7:Int):Ls_l2Gcd_6 x0 x5 x6 x7 =
 bif x7 != 0 then bif x7 != 0 then Ls_l2Gcd_6 x0 x7 x6 (x5.tmod x7) else none
else Ls_l2Gcd_3 x0 x5 (IntKind.i64.wrap (x6+1)):=(turn_eq js_l2Gcd_ok [1,1,0,1,0,0,1,0,0,1,0] (by kernel_rfl) _).trans (by kernel_rfl)
theorem Ls_l2Gcd_3_eq (x0:List Int) (x5:Int) (x6:Int):Ls_l2Gcd_3 x0 x5 x6 =
 bif decide (x6 < (↑x0.length:Int)) then
 (getI x0 x6).bind fun y=>(Ss_l1Abs y).bind fun y=>Ls_l2Gcd_6 x0 x5 x6 y.fst.fst
else some ((x5,()),()):=(turn_eq js_l2Gcd_ok [1,1,0,1,0] (by kernel_rfl) _).trans (by kernel_rfl)
theorem Ss_l2Gcd_eq (a0:List Int) (a1:Int):Ss_l2Gcd a0 a1 =
 (Ss_l1Abs a1).bind fun y=>Ls_l2Gcd_3 a0 y.fst.fst 0:=(Eq.trans (by kernel_rfl:Ss_l2Gcd a0 a1=denK Es_l2Gcd (Tryz.f88.body.getD .skip) Ks_l2Gcd (slots0 28 [(ty59,Mode.ro),(ty3,Mode.ro)] (a0,a1,()))) (all_eq js_l2Gcd_ok _)).trans (by kernel_rfl)
def Es_IsAtom:Env:=mkEnv C tab_s_l2Gcd [0,1,3,4,9,15,21,22,24,28,30] 34
 (fun k=>bif k == 1 then some 6 else bif k == 4 then some 14 else bif k == 1000004 then some 10 else none)
 (Hints.mk (fun x x_1=>none) (fun s=>Nat.testBit 2 s) fun r=>bif r == 1 then [5,16,22,24,29] else [])
 [(ty85,Mode.ro)]
def Ks_IsAtom:=endK C [(ty85,Mode.ro)] [(ty4,0)] [RV.tmp 2]
def Ls_IsAtom_4 (x1:Atm) (x3:Int):Option ((Bool×PUnit)×PUnit):=loopAt Es_IsAtom [1,1,0,1,0] (Tryz.f89.body.getD .skip) Ks_IsAtom (V.dead::(V.box none 0 ty85 x1::V.dead::(V.d none 0 (Ty.int IntKind.i64) x3::dd 30 ([]))))
def Ss_IsAtom (a0:Atm):Option ((Bool×PUnit)×PUnit):=Fs_IsAtom.sem (a0,())
def js_IsAtom:List (Nat×List Nat):=[(1000004,[1,1,0,1,0])]
theorem js_IsAtom_ok:okB js_IsAtom (Tryz.f89.body.getD .skip) []=true:=by kernel_rfl
theorem Ls_IsAtom_4_eq (x1:Atm) (x3:Int):Ls_IsAtom_4 x1 x3 =
 bif decide (x3 < (↑(List.length x1.fst):Int)) then
 (getI x1.fst x3).bind fun y =>
 (Ss_IsNumber y).bind fun y =>
  bif !y.fst.fst then some ((false,()),()) else Ls_IsAtom_4 x1 (IntKind.i64.wrap (x3+1))
else (Ss_l2Gcd x1.fst x1.snd.fst).bind fun y=>some ((decide (y.fst.fst≤1),()),()):=(turn_eq js_IsAtom_ok [1,1,0,1,0] (by kernel_rfl) _).trans (by kernel_rfl)
theorem Ss_IsAtom_eq (a0:Atm):Ss_IsAtom a0 =
 bif decide ((↑(List.length a0.fst):Int) > 4) then some ((false,()),())
else (Ss_IsNumber a0.snd.fst).bind fun y=>bif !y.fst.fst then some ((false,()),()) else Ls_IsAtom_4 a0 0:=(Eq.trans (by kernel_rfl:Ss_IsAtom a0=denK Es_IsAtom (Tryz.f89.body.getD .skip) Ks_IsAtom (slots0 34 [(ty85,Mode.ro)] (a0,()))) (all_eq js_IsAtom_ok _)).trans (by kernel_rfl)
def Es_l2Atom:Env:=mkEnv C tab_s_IsAtom [0,1,2,3,4,5,6,8,9,10,26,28,30] 42
 (fun k =>
 bif k == 1 then some 199
 else
  bif k == 2 then some 455
  else
  bif k == 4 then some 1985
  else
   bif k == 6 then some 1985
   else bif k == 8 then some 192 else bif k == 9 then some 704 else bif k == 1000004 then some 1857 else none)
 (Hints.mk (fun x x_1=>none) (fun s=>Nat.testBit 576 s) fun r =>
 bif r == 6 then [] else bif r == 9 then [27,37,41] else [])
 [(ty59,Mode.ro),(ty3,Mode.ro),(ty4,Mode.ro)]
def Ks_l2Atom:=endK C [(ty59,Mode.ro),(ty3,Mode.ro),(ty4,Mode.ro)] [(ty85,1),(ty4,0)] [RV.cell 6 85,RV.tmp 7]
def Ls_l2Atom_4 (x0:List Int) (x6:Atm) (x8:Int) (x9:Atm) (x10:Int):Option ((Atm×Bool×PUnit)×PUnit):=loopAt Es_l2Atom [1,1,1,0,1,0] (Tryz.f39.body.getD .skip) Ks_l2Atom (V.d none 0 ty59 x0::dd 5 (V.box none ty85.depth ty85 x6::V.dead::(V.d none 0 (Ty.int IntKind.i64) x8::V.box none ty85.depth ty85 x9::V.d none 0 (Ty.int IntKind.i64) x10::dd 31 ([]))))
def Ss_l2Atom (a0:List Int) (a1:Int) (a2:Bool):Option ((Atm×Bool×PUnit)×PUnit):=Fs_l2Atom.sem (a0,a1,a2,())
def js_l2Atom:List (Nat×List Nat):=[(1000004,[1,1,1,0,1,0])]
theorem js_l2Atom_ok:okB js_l2Atom (Tryz.f39.body.getD .skip) []=true:=by kernel_rfl
theorem Ls_l2Atom_4_eq (x0:List Int) (x6:Atm) (x8:Int) (x9:Atm) (x10:Int):Ls_l2Atom_4 x0 x6 x8 x9 x10 =
 bif decide (x10 < (↑x0.length:Int)) then
 (getI x0 x10).bind fun y =>
 bif x8 != 0 then
  bif decide ((List.length x9.fst+1)*8≤140737488355328) then
  Ls_l2Atom_4 x0 x6 x8 (x9.fst++[IntKind.i64.wrap (y.tdiv x8)],x9.snd) (IntKind.i64.wrap (x10+1))
  else none
 else none
else
 (Ss_IsAtom x9).bind fun y=>bif !y.fst.fst then some ((([],0,false),false,()),()) else some ((x9,true,()),()):=(turn_eq js_l2Atom_ok [1,1,1,0,1,0] (by kernel_rfl) _).trans (by kernel_rfl)
theorem Ss_l2Atom_eq (a0:List Int) (a1:Int) (a2:Bool):Ss_l2Atom a0 a1 a2 =
 (Ss_l2Gcd a0 a1).bind fun y =>
 bif (bif true then if 1 < y.fst.fst then y.fst.fst else 1 else if y.fst.fst < 1 then y.fst.fst else 1) != 0 then
 Ls_l2Atom_4 a0 ([],0,false)
  (bif true then if 1 < y.fst.fst then y.fst.fst else 1 else if y.fst.fst < 1 then y.fst.fst else 1)
  ([],
  IntKind.i64.wrap
   (a1.tdiv (bif true then if 1 < y.fst.fst then y.fst.fst else 1 else if y.fst.fst < 1 then y.fst.fst else 1)),
  a2)
  0
 else none:=(Eq.trans (by kernel_rfl:Ss_l2Atom a0 a1 a2=denK Es_l2Atom (Tryz.f39.body.getD .skip) Ks_l2Atom (slots0 42 [(ty59,Mode.ro),(ty3,Mode.ro),(ty4,Mode.ro)] (a0,a1,a2,()))) (all_eq js_l2Atom_ok _)).trans (by kernel_rfl)
def Es_l8Ends:Env:=mkEnv C tab_s_l2Atom [0,1,2,3,5,6,7,8,9,10,14,19,20,23] 32
 (fun k=>bif k == 1 then some 28 else bif k == 2 then some 56 else bif k == 3 then some 176 else none)
 (Hints.mk
 (fun d i =>
  bif d == 9 then bif i == 0 then some 17 else bif i == 1 then some 18 else none
  else bif d == 19 then bif i == 0 then some 27 else bif i == 1 then some 28 else none else none)
 (fun s=>Nat.testBit 160 s) fun r=>bif r == 5 then [29] else bif r == 7 then [30] else [])
 [(ty73,Mode.ro),(ty73,Mode.ro)]
def Ks_l8Ends:=endK C [(ty73,Mode.ro),(ty73,Mode.ro)] [(ty78,2)] [RV.tmp 4]
def Ss_l8Ends (a0:Rat) (a1:Rat):Option ((List Atm×PUnit)×PUnit):=Fs_l8Ends.sem (a0,a1,())
theorem Ss_l8Ends_eq (a0:Rat) (a1:Rat):Ss_l8Ends a0 a1 =
 (Ss_l2Atom [IntKind.i64.wrap (0 - a0.snd)] a0.fst false).bind fun y =>
 (Ss_l2Atom [a1.snd] (IntKind.i64.wrap (0 - a1.fst)) false).bind fun y_1=>some (([y.fst.fst,y_1.fst.fst],()),()):=by kernel_rfl
def Es_l2Constant:Env:=mkEnv C tab_s_l8Ends [0,1,3,5,11,12,14] 17
 (fun k=>bif k == 2 then some 14 else bif k == 1000002 then some 10 else none)
 (Hints.mk (fun x x_1=>none) (fun s=>Nat.testBit 2 s) fun r=>bif r == 1 then [6,12,14] else [])
 [(ty85,Mode.ro)]
def Ks_l2Constant:=endK C [(ty85,Mode.ro)] [(ty4,0)] [RV.tmp 2]
def Ls_l2Constant_2 (x1:Atm) (x3:Int):Option ((Bool×PUnit)×PUnit):=loopAt Es_l2Constant [1,0,1,0] (Tryz.f90.body.getD .skip) Ks_l2Constant (V.dead::(V.box none 0 ty85 x1::V.dead::(V.d none 0 (Ty.int IntKind.i64) x3::dd 13 ([]))))
def Ss_l2Constant (a0:Atm):Option ((Bool×PUnit)×PUnit):=Fs_l2Constant.sem (a0,())
def js_l2Constant:List (Nat×List Nat):=[(1000002,[1,0,1,0])]
theorem js_l2Constant_ok:okB js_l2Constant (Tryz.f90.body.getD .skip) []=true:=by kernel_rfl
theorem Ls_l2Constant_2_eq (x1:Atm) (x3:Int):Ls_l2Constant_2 x1 x3 =
 bif decide (x3 < (↑(List.length x1.fst):Int)) then
 (getI x1.fst x3).bind fun y =>
 bif y != 0 then some ((false,()),()) else Ls_l2Constant_2 x1 (IntKind.i64.wrap (x3+1))
else some ((true,()),()):=(turn_eq js_l2Constant_ok [1,0,1,0] (by kernel_rfl) _).trans (by kernel_rfl)
theorem Ss_l2Constant_eq (a0:Atm):Ss_l2Constant a0 =
 Ls_l2Constant_2 a0 0:=(Eq.trans (by kernel_rfl:Ss_l2Constant a0=denK Es_l2Constant (Tryz.f90.body.getD .skip) Ks_l2Constant (slots0 17 [(ty85,Mode.ro)] (a0,()))) (all_eq js_l2Constant_ok _)).trans (by kernel_rfl)
def Es_l2Truth:Env:=mkEnv C tab_s_l2Constant [0,1,3,7,11] 16 (fun x=>none)
 (Hints.mk (fun x x_1=>none) (fun s=>Nat.testBit 2 s) fun r=>bif r == 1 then [] else []) [(ty85,Mode.ro)]
def Ks_l2Truth:=endK C [(ty85,Mode.ro)] [(ty4,0)] [RV.tmp 2]
def Ss_l2Truth (a0:Atm):Option ((Bool×PUnit)×PUnit):=Fs_l2Truth.sem (a0,())
theorem Ss_l2Truth_eq (a0:Atm):Ss_l2Truth a0 =
 bif decide (a0.snd.fst < 0) then some ((true,()),())
else bif a0.snd.fst == 0 then some ((!a0.snd.snd,()),()) else some ((false,()),()):=by kernel_rfl
def Es_l3None:Env:=mkEnv C tab_s_l2Truth [0,1,2] 9 (fun k=>bif k == 1 then some 5 else none)
 (Hints.mk (fun x x_1=>none) (fun s=>Nat.testBit 4 s) fun r=>bif r == 2 then [] else []) [(ty3,Mode.ro)]
def Ks_l3None:=endK C [(ty3,Mode.ro)] [(ty83,0)] [RV.cell 2 83]
def Ss_l3None (a0:Int):Option ((Cel×PUnit)×PUnit):=Fs_l3None.sem (a0,())
theorem Ss_l3None_eq (a0:Int):Ss_l3None a0 =
 bif
 decide (0≤a0) && decide (a0≤a0) && decide (a0*(↑8:Int)≤140737488355328) &&
  decide (a0≤9223372036854775807) then
 some (((a0,[(List.replicate a0.toNat (0:Int),1,false)]),()),())
else none:=by kernel_rfl
def Es_l3Atom:Env:=mkEnv C tab_s_l3None [0,1,2,4,7,9] 12 (fun k=>bif k == 1 then some 6 else none)
 (Hints.mk (fun x x_1=>none) (fun s=>Nat.testBit 6 s) fun r=>bif r == 1 then [5] else bif r == 2 then [] else [])
 [(ty85,Mode.ro)]
def Ks_l3Atom:=endK C [(ty85,Mode.ro)] [(ty85,0)] [RV.cell 2 85]
def Ss_l3Atom (a0:Atm):Option ((Atm×PUnit)×PUnit):=Fs_l3Atom.sem (a0,())
theorem Ss_l3Atom_eq (a0:Atm):Ss_l3Atom a0 =
 bif decide ((0+List.length a0.fst)*8≤140737488355328) then some (((a0.fst,a0.snd.fst,a0.snd.snd),()),())
else none:=by kernel_rfl
def Es_l2Steep:Env:=mkEnv C tab_s_l3Atom [0,1,3] 6 (fun x=>none)
 (Hints.mk (fun x x_1=>none) (fun s=>Nat.testBit 2 s) fun r=>bif r == 1 then [4] else []) [(ty85,Mode.ro)]
def Ks_l2Steep:=endK C [(ty85,Mode.ro)] [(ty3,0)] [RV.tmp 2]
def Ss_l2Steep (a0:Atm):Option ((Int×PUnit)×PUnit):=Fs_l2Steep.sem (a0,())
theorem Ss_l2Steep_eq (a0:Atm):Ss_l2Steep a0 =
 (Ss_l2Gcd a0.fst 0).bind fun y=>some ((y.fst.fst,()),()):=by kernel_rfl
def Es_l2Way:Env:=mkEnv C tab_s_l2Steep [0,1,2,3,5,6,7,8,9,17,23,30,31,33,37,38,40] 50
 (fun k =>
 bif k == 1 then some 28
 else bif k == 2 then some 60 else bif k == 4 then some 252 else bif k == 1000004 then some 236 else none)
 (Hints.mk (fun x x_1=>none) (fun s=>Nat.testBit 12 s) fun r =>
 bif r == 2 then [10,18,31,33] else bif r == 3 then [13,24,38,40] else [])
 [(ty85,Mode.ro),(ty85,Mode.ro)]
def Ks_l2Way:=endK C [(ty85,Mode.ro),(ty85,Mode.ro)] [(ty3,0)] [RV.tmp 4]
def Ls_l2Way_4 (x2:Atm) (x3:Atm) (x5:Int) (x6:Int) (x7:Int):Option ((Int×PUnit)×PUnit):=loopAt Es_l2Way [1,1,1,0,1,0] (Tryz.f132.body.getD .skip) Ks_l2Way (dd 2 (V.box none 0 ty85 x2::V.box none 0 ty85 x3::V.dead::(V.d none 0 (Ty.int IntKind.i64) x5::V.d none 0 (Ty.int IntKind.i64) x6::V.d none 0 (Ty.int IntKind.i64) x7::dd 42 ([]))))
def Ss_l2Way (a0:Atm) (a1:Atm):Option ((Int×PUnit)×PUnit):=Fs_l2Way.sem (a0,a1,())
def js_l2Way:List (Nat×List Nat):=[(1000004,[1,1,1,0,1,0])]
theorem js_l2Way_ok:okB js_l2Way (Tryz.f132.body.getD .skip) []=true:=by kernel_rfl
theorem Ls_l2Way_4_eq (x2:Atm) (x3:Atm) (x5:Int) (x6:Int) (x7:Int):Ls_l2Way_4 x2 x3 x5 x6 x7 =
 bif decide (x7 < (↑(List.length x2.fst):Int)) then
 bif decide (x7 < (↑(List.length x3.fst):Int)) then
 (getI x2.fst x7).bind fun y =>
  bif x5 != 0 then
  (getI x3.fst x7).bind fun y_1 =>
   bif x6 != 0 then
   bif IntKind.i64.wrap (y.tdiv x5) != IntKind.i64.wrap (y_1.tdiv x6) then
    bif decide (IntKind.i64.wrap (y.tdiv x5) < IntKind.i64.wrap (y_1.tdiv x6)) then some ((-1,()),())
    else some ((1,()),())
   else Ls_l2Way_4 x2 x3 x5 x6 (IntKind.i64.wrap (x7+1))
   else none
  else none
 else some ((0,()),())
else some ((0,()),()):=(turn_eq js_l2Way_ok [1,1,1,0,1,0] (by kernel_rfl) _).trans (by kernel_rfl)
theorem Ss_l2Way_eq (a0:Atm) (a1:Atm):Ss_l2Way a0 a1 =
 (Ss_l2Steep a0).bind fun y =>
 (Ss_l2Steep a1).bind fun y_1 =>
 Ls_l2Way_4 a0 a1 (bif true then if 1 < y.fst.fst then y.fst.fst else 1 else if y.fst.fst < 1 then y.fst.fst else 1)
  (bif true then if 1 < y_1.fst.fst then y_1.fst.fst else 1 else if y_1.fst.fst < 1 then y_1.fst.fst else 1) 0:=(Eq.trans (by kernel_rfl:Ss_l2Way a0 a1=denK Es_l2Way (Tryz.f132.body.getD .skip) Ks_l2Way (slots0 50 [(ty85,Mode.ro),(ty85,Mode.ro)] (a0,a1,()))) (all_eq js_l2Way_ok _)).trans (by kernel_rfl)
def Es_l2Stronger:Env:=mkEnv C tab_s_l2Way [0,1,2,3,5,6,7,13,27,30] 36
 (fun k=>bif k == 1 then some 28 else bif k == 2 then some 60 else none)
 (Hints.mk (fun x x_1=>none) (fun s=>Nat.testBit 12 s) fun r =>
 bif r == 2 then [15] else bif r == 3 then [9] else [])
 [(ty85,Mode.ro),(ty85,Mode.ro)]
def Ks_l2Stronger:=endK C [(ty85,Mode.ro),(ty85,Mode.ro)] [(ty4,0)] [RV.tmp 4]
def Ss_l2Stronger (a0:Atm) (a1:Atm):Option ((Bool×PUnit)×PUnit):=Fs_l2Stronger.sem (a0,a1,())
theorem Ss_l2Stronger_eq (a0:Atm) (a1:Atm):Ss_l2Stronger a0 a1 =
 (Ss_l2Steep a1).bind fun y =>
 (Ss_l2Steep a0).bind fun y_1 =>
 bif
  decide
   (IntKind.i64.wrap
    (a0.snd.fst*bif true then if 1 < y.fst.fst then y.fst.fst else 1 else if y.fst.fst < 1 then y.fst.fst else 1) >
   IntKind.i64.wrap
    (a1.snd.fst *
    bif true then if 1 < y_1.fst.fst then y_1.fst.fst else 1 else if y_1.fst.fst < 1 then y_1.fst.fst else 1)) then
  some ((true,()),())
 else
  bif
   IntKind.i64.wrap
    (a0.snd.fst *
    bif true then if 1 < y.fst.fst then y.fst.fst else 1 else if y.fst.fst < 1 then y.fst.fst else 1) ==
   IntKind.i64.wrap
    (a1.snd.fst *
    bif true then if 1 < y_1.fst.fst then y_1.fst.fst else 1 else if y_1.fst.fst < 1 then y_1.fst.fst else 1) then
  bif a0.snd.snd then some ((true,()),()) else some ((!a1.snd.snd,()),())
  else some ((false,()),()):=by kernel_rfl
def Es_l3Put:Env:=mkEnv C tab_s_l2Stronger [0,1,2,3,5,6,12,14,27,29,35,37,45,51,58] 62
 (fun k =>
 bif k == 2 then some 121
 else
  bif k == 4 then some 121
  else
  bif k == 7 then some 121
  else
   bif k == 8 then some 121
   else
   bif k == 10 then some 121
   else
    bif k == 1000002 then
    some
     85720688574901385675874003924800144844912384936442688595500031069628084089994889799455870305255668650207573833404251746014971622855385123487876620597588598431476542198593847883368596840498969135023633457224371799868655530139190140473324351568616503316569571821492337341283438653220995094697645344555049
    else none)
 (Hints.mk (fun x x_1=>none) (fun s=>Nat.testBit 8 s) fun r=>bif r == 3 then [16,31,39,47,55] else [])
 [(ty78,Mode.ro),(ty85,Mode.ro)]
def Ks_l3Put:=endK C [(ty78,Mode.ro),(ty85,Mode.ro)] [(ty78,0)] [RV.tmp 4]
def Ls_l3Put_2 (x0:List Atm) (x3:Atm) (x5:Int):Option ((List Atm×PUnit)×PUnit):=loopAt Es_l3Put [1,1,0,0] (Tryz.f93.body.getD .skip) Ks_l3Put (V.d none 0 ty78 x0::dd 2 (V.box none 0 ty85 x3::V.dead::(V.d none 0 (Ty.int IntKind.i64) x5::dd 56 ([]))))
def Ss_l3Put (a0:List Atm) (a1:Atm):Option ((List Atm×PUnit)×PUnit):=Fs_l3Put.sem (a0,a1,())
def js_l3Put:List (Nat×List Nat):=[(1000002,[1,1,0,0])]
theorem js_l3Put_ok:okB js_l3Put (Tryz.f93.body.getD .skip) []=true:=by kernel_rfl
theorem Ls_l3Put_2_eq (x0:List Atm) (x3:Atm) (x5:Int):Ls_l3Put_2 x0 x3 x5 =
 bif decide (x5 < (↑x0.length:Int)) then
 (getI x0 x5).bind fun y =>
 (Ss_l2Way y x3).bind fun y =>
  bif decide (y.fst.fst < 0) then Ls_l3Put_2 x0 x3 (IntKind.i64.wrap (x5+1))
  else
  bif decide (x5 < (↑x0.length:Int)) then
   (getI x0 x5).bind fun y =>
   (Ss_l2Way y x3).bind fun y =>
    bif y.fst.fst == 0 then
    (getI x0 x5).bind fun y =>
     (Ss_l2Stronger y x3).bind fun y =>
     bif y.fst.fst then some ((x0,()),())
     else
      bif decide ((0+x0.length)*40≤140737488355328) then
      (getI x0 x5).bind fun y =>
       (getI x0 x5).bind fun y =>
       (getI x0 x5).bind fun y=>(some (x0.set x5.toNat x3)).bind fun y=>some ((y,()),())
      else none
    else
    bif decide (0≤0) && decide (0≤x5) && decide (x5≤(↑x0.length:Int)) then
     bif decide ((0+(List.drop (Int.toNat 0) (List.take x5.toNat x0)).length)*40≤140737488355328) then
     bif decide (((List.drop (Int.toNat 0) (List.take x5.toNat x0)).length+1)*40≤140737488355328) then
      bif
       decide (0≤x5) && decide (x5≤(↑x0.length:Int)) &&
       decide ((↑x0.length:Int)≤(↑x0.length:Int)) then
      bif
       decide
        (((List.drop (Int.toNat 0) (List.take x5.toNat x0)++[x3]).length +
         (List.drop x5.toNat (List.take x0.length x0)).length) *
         40 ≤
        140737488355328) then
       some
       ((List.drop (Int.toNat 0) (List.take x5.toNat x0)++[x3]++List.drop x5.toNat (List.take x0.length x0),
        ()),
        ())
      else none
      else none
     else none
     else none
    else none
  else
   bif decide (0≤0) && decide (0≤x5) && decide (x5≤(↑x0.length:Int)) then
   bif decide ((0+(List.drop (Int.toNat 0) (List.take x5.toNat x0)).length)*40≤140737488355328) then
    bif decide (((List.drop (Int.toNat 0) (List.take x5.toNat x0)).length+1)*40≤140737488355328) then
    bif decide (0≤x5) && decide (x5≤(↑x0.length:Int)) && decide ((↑x0.length:Int)≤(↑x0.length:Int)) then
     bif
      decide
      (((List.drop (Int.toNat 0) (List.take x5.toNat x0)++[x3]).length +
        (List.drop x5.toNat (List.take x0.length x0)).length) *
       40 ≤
       140737488355328) then
     some
      ((List.drop (Int.toNat 0) (List.take x5.toNat x0)++[x3]++List.drop x5.toNat (List.take x0.length x0),
       ()),
      ())
     else none
    else none
    else none
   else none
   else none
else
 bif decide (x5 < (↑x0.length:Int)) then
 (getI x0 x5).bind fun y =>
  (Ss_l2Way y x3).bind fun y =>
  bif y.fst.fst == 0 then
   (getI x0 x5).bind fun y =>
   (Ss_l2Stronger y x3).bind fun y =>
    bif y.fst.fst then some ((x0,()),())
    else
    bif decide ((0+x0.length)*40≤140737488355328) then
     (getI x0 x5).bind fun y =>
     (getI x0 x5).bind fun y =>
      (getI x0 x5).bind fun y=>(some (x0.set x5.toNat x3)).bind fun y=>some ((y,()),())
    else none
  else
   bif decide (0≤0) && decide (0≤x5) && decide (x5≤(↑x0.length:Int)) then
   bif decide ((0+(List.drop (Int.toNat 0) (List.take x5.toNat x0)).length)*40≤140737488355328) then
    bif decide (((List.drop (Int.toNat 0) (List.take x5.toNat x0)).length+1)*40≤140737488355328) then
    bif decide (0≤x5) && decide (x5≤(↑x0.length:Int)) && decide ((↑x0.length:Int)≤(↑x0.length:Int)) then
     bif
      decide
      (((List.drop (Int.toNat 0) (List.take x5.toNat x0)++[x3]).length +
        (List.drop x5.toNat (List.take x0.length x0)).length) *
       40 ≤
       140737488355328) then
     some
      ((List.drop (Int.toNat 0) (List.take x5.toNat x0)++[x3]++List.drop x5.toNat (List.take x0.length x0),
       ()),
      ())
     else none
    else none
    else none
   else none
   else none
 else
 bif decide (0≤0) && decide (0≤x5) && decide (x5≤(↑x0.length:Int)) then
  bif decide ((0+(List.drop (Int.toNat 0) (List.take x5.toNat x0)).length)*40≤140737488355328) then
  bif decide (((List.drop (Int.toNat 0) (List.take x5.toNat x0)).length+1)*40≤140737488355328) then
   bif decide (0≤x5) && decide (x5≤(↑x0.length:Int)) && decide ((↑x0.length:Int)≤(↑x0.length:Int)) then
   bif
    decide
     (((List.drop (Int.toNat 0) (List.take x5.toNat x0)++[x3]).length +
      (List.drop x5.toNat (List.take x0.length x0)).length) *
      40 ≤
     140737488355328) then
    some
    ((List.drop (Int.toNat 0) (List.take x5.toNat x0)++[x3]++List.drop x5.toNat (List.take x0.length x0),()),
     ())
   else none
   else none
  else none
  else none
 else none:=(turn_eq js_l3Put_ok [1,1,0,0] (by kernel_rfl) _).trans (by kernel_rfl)
theorem Ss_l3Put_eq (a0:List Atm) (a1:Atm):Ss_l3Put a0 a1 =
 Ls_l3Put_2 a0 a1 0:=(Eq.trans (by kernel_rfl:Ss_l3Put a0 a1=denK Es_l3Put (Tryz.f93.body.getD .skip) Ks_l3Put (slots0 62 [(ty78,Mode.ro),(ty85,Mode.ro)] (a0,a1,()))) (all_eq js_l3Put_ok _)).trans (by kernel_rfl)
def Es_l3Normal:Env:=mkEnv C tab_s_l3Put [0,1,2,3,4,5,6,15,17,20,22,28,30,32] 38
 (fun k =>
 bif k == 1 then some 19
 else
  bif k == 3 then some 115
  else
  bif k == 7 then some 17
  else
   bif k == 8 then some 115
   else
   bif k == 9 then some 48
   else
    bif k == 1000003 then
    some
     514324131449408314055244023548800869069474309618656131573000186417768504539969338796735221831534011901245443000425510476089829737132310740927259723585531590588859253191563087300211581042993814810141800743346230799211933180835140842839946109411699019899417430928954024047700631919325970568185872067330163
    else none)
 (Hints.mk (fun x x_1=>none) (fun s=>Nat.testBit 48 s) fun r =>
 bif r == 4 then [] else bif r == 5 then [29,37] else [])
 [(ty3,Mode.ro),(ty78,Mode.ro)]
def Ks_l3Normal:=endK C [(ty3,Mode.ro),(ty78,Mode.ro)] [(ty83,0)] [RV.cell 4 83]
def Ls_l3Normal_3 (x0:Int) (x1:List Atm) (x4:Int×List Atm) (x5:Int×List Atm) (x6:Int):Option ((Cel×PUnit)×PUnit):=loopAt Es_l3Normal [1,1,0,1,0] (Tryz.f40.body.getD .skip) Ks_l3Normal (V.d none 0 ty3 x0::V.d none 0 ty78 x1::dd 2 (V.box none 0 ty83 x4::V.box none 0 ty83 x5::V.d none 0 (Ty.int IntKind.i64) x6::dd 31 ([])))
def Ss_l3Normal (a0:Int) (a1:List Atm):Option ((Cel×PUnit)×PUnit):=Fs_l3Normal.sem (a0,a1,())
def js_l3Normal:List (Nat×List Nat):=[(1000003,[1,1,0,1,0])]
theorem js_l3Normal_ok:okB js_l3Normal (Tryz.f40.body.getD .skip) []=true:=by kernel_rfl
theorem Ls_l3Normal_3_eq (x0:Int) (x1:List Atm) (x4:Int×List Atm) (x5:Int×List Atm) (x6:Int):Ls_l3Normal_3 x0 x1 x4 x5 x6 =
 bif decide (x6 < (↑x1.length:Int)) then
 (getI x1 x6).bind fun y =>
 (Ss_l2Constant y).bind fun y =>
  bif y.fst.fst then
  (getI x1 x6).bind fun y =>
   (Ss_l2Truth y).bind fun y =>
   bif !y.fst.fst then (Ss_l3None x0).bind fun y=>some ((y.fst.fst,()),())
   else Ls_l3Normal_3 x0 x1 x4 x5 (IntKind.i64.wrap (x6+1))
  else
  (getI x1 x6).bind fun y =>
   (Ss_l3Atom y).bind fun y =>
   (Ss_l3Put x5.snd y.fst.fst).bind fun y=>Ls_l3Normal_3 x0 x1 x4 (x5.fst,y.fst.fst) (IntKind.i64.wrap (x6+1))
else some ((x5,()),()):=(turn_eq js_l3Normal_ok [1,1,0,1,0] (by kernel_rfl) _).trans (by kernel_rfl)
theorem Ss_l3Normal_eq (a0:Int) (a1:List Atm):Ss_l3Normal a0 a1 =
 Ls_l3Normal_3 a0 a1 (0,[]) (a0,[]) 0:=(Eq.trans (by kernel_rfl:Ss_l3Normal a0 a1=denK Es_l3Normal (Tryz.f40.body.getD .skip) Ks_l3Normal (slots0 38 [(ty3,Mode.ro),(ty78,Mode.ro)] (a0,a1,()))) (all_eq js_l3Normal_ok _)).trans (by kernel_rfl)
def Es_TrackRegion:Env:=mkEnv C tab_s_l3Normal
 (have y :=
 have y :=
  have y :=
  have y:=[131,140,146,148];
  123::126::127::130::y;
  104::105::109::114::115::118::119::y;
 have y :=
  have y:=91::93::100::101::y;
  69::72::74::75::y;
 53::54::62::64::66::67::68::y;
 have y :=
 have y :=
  have y:=47::49::51::52::y;
  42::44::45::46::y;
 16::17::18::19::33::34::36::y;
 have y :=
 have y:=12::13::14::15::y;
 8::9::10::11::y;
 0::1::2::4::5::6::7::y)
 155
 (fun k =>
 bif k == 2 then some 12
 else
  bif k == 3 then some 13
  else
  bif k == 6 then some 124
  else
   bif k == 8 then some 124
   else
   bif k == 10 then some 2044
   else
    bif k == 14 then some 8188
    else
    bif k == 15 then some 3068
    else
     bif k == 20 then some 12
     else
     bif k == 21 then some 27260
     else
      bif k == 25 then some 125564
      else
      bif k == 26 then some 256636
      else
       bif k == 27 then some 256636
       else
       bif k == 29 then some 12
       else
        bif k == 30 then some 387708
        else
        bif k == 31 then
         some
         21944496275174754733023745004748837080297570543729328280448007953824789527038691788660702798145451174453138901351488446979832735450978591612896414872982681198457994802840025058142360791167736098566050165049439180766375815715632675961171034001565824849041810386302038359368560295224574744242597208206084220
        else
         bif k == 32 then some 28
         else
         bif k == 1000006 then
          some
          2296261390548509048465666402355363968044635404177390400955285473651532522784740627713318972633012539836891929277974925546894237921726110662851862712333306370782599782906245600013775582964800897428578539801269724895632309272927767278946340520809327079418099931163247976178892592112466232990723284439406653626883378179689170112047589696158281178018695530008580054334132516610440162644725625835225357666344131979907928362540435597168080843197063665030817788678041838411099155671793440783201639144332611655107608511674520310566975728388641090178305515677652503508710576016456855416359309075243697022980587636
         else
          bif k == 1000012 then
          some
           237433427782715835611349906003544634295815300791942167458776517975568462855942180905557181770253496619134625487342607301548864201106479842538882604455263878738920817552505795041424395278560412794115021015451289554208380778820731136643051609851684420011831532882279840736897494024429008491240787611034647985019741303779860189585720774582766273807133117802887177618149302217519512817464629711362301982699983246722479792686681040747179559186576382964186559349309526091707652696463441776983049487523992045138126720107145400112625290315385488724436790321069268862800673560101638850051552558380198272176192757748
          else
          bif k == 1000017 then
           some
           237433427782715835611349906003544634295815300791942167458776517975568462855942180905557181770253496619134625487342607301548864201106479842538882604455263878738920817552505795041424395278560412794115021015451289554208380778820731136643051609851684420011831532882279840736897494024429008491240787611034647985019741303779860189585720774582766273807133117802887177618149302217519512817464629711362301982699983246722479792686681040747179559186576382964186559349309526091707652696463441776983049487523992045138126720107145400112625290315385488724436790321069268862800673560101638850051552558380198272176192776820
          else
           bif k == 1000023 then
           some
            237433427782715835611349906003544634295815300791942167458776517975568462855942180905557181770253496619134625487342607301548864201106479842538882604455263878738920817552505795041424395278560412794115021015451289554208380778820731136643051609851684420011831532882279840736897494024429008491240787611034647985019741303779860189585720774582766273807133117802887177618149302217519512817464629711362301982699983246722479792686681040747179559186576382964186559349309526091707652696463441776983049487523992045138126720107145400112625290315385488724436790321069268862800673560101638850051552558380198272176192875124
           else none)
 (Hints.mk
 (fun d i =>
  bif d == 33 then bif i == 0 then some 39 else bif i == 1 then some 40 else bif i == 2 then some 41 else none
  else bif d == 123 then bif i == 0 then some 135 else bif i == 1 then some 136 else none else none)
 (fun s=>Nat.testBit 264212 s) fun r =>
 bif r == 2 then []
 else bif r == 4 then [147,154] else bif r == 11 then [63,141,149] else bif r == 18 then [142] else [])
 [(ty29,Mode.ro)]
def Ks_TrackRegion:=endK C [(ty29,Mode.ro)] [(ty26,0),(ty4,0)] [RV.cell 2 26,RV.tmp 3]
def Ls_TrackRegion_23 (x2:Int×List Cel) (x4:Int×List Cel) (x5:List (List (Rat×Rat×Int×Int))) (x6:Int) (x9:Bool) (x11:Int×List Atm) (x13:List (Rat×Int×Int)) (x14:Int) (x15:Rat×Int×Int) (x16:Int):Option ((Reg×Bool×PUnit)×PUnit):=loopAt Es_TrackRegion [1,1,1,1,0,1,0,0,1,0,0,1,1,1,1,1,0,1,0,0,1,0,0,1,1,1,0] (Tryz.f7.body.getD .skip) Ks_TrackRegion (dd 2 (V.box none 1 ty26 x2::V.dead::(V.box none 1 ty26 x4::V.d none 2 ty70 x5::V.d none 0 (Ty.int IntKind.i64) x6::dd 2 (V.d none 0 ty4 x9::V.dead::(V.box none 1 ty83 x11::V.dead::(V.d none ((minO none (minO none none)).getD ty75.depth+1) (Ty.slice 75 ty75) x13::V.d none 0 (Ty.int IntKind.i64) x14::V.box none ty75.depth ty75 x15::V.d none 0 (Ty.int IntKind.i64) x16::dd 138 ([])))))))
def Ls_TrackRegion_17 (x2:Int×List Cel) (x4:Int×List Cel) (x5:List (List (Rat×Rat×Int×Int))) (x6:Int) (x9:Bool) (x11:Int×List Atm) (x13:List (Rat×Int×Int)) (x14:Int):Option ((Reg×Bool×PUnit)×PUnit):=loopAt Es_TrackRegion [1,1,1,1,0,1,0,0,1,0,0,1,1,1,1,1,0,1,0] (Tryz.f7.body.getD .skip) Ks_TrackRegion (dd 2 (V.box none 1 ty26 x2::V.dead::(V.box none 1 ty26 x4::V.d none 2 ty70 x5::V.d none 0 (Ty.int IntKind.i64) x6::dd 2 (V.d none 0 ty4 x9::V.dead::(V.box none 1 ty83 x11::V.dead::(V.d none ((minO none (minO none none)).getD ty75.depth+1) (Ty.slice 75 ty75) x13::V.d none 0 (Ty.int IntKind.i64) x14::dd 140 ([])))))))
def Ls_TrackRegion_12 (x2:Int×List Cel) (x4:Int×List Cel) (x5:List (List (Rat×Rat×Int×Int))) (x6:Int) (x7:Rat×Int×Int) (x8:Rat×Int×Int) (x9:Bool) (x10:List Atm) (x11:Int×List Atm) (x12:Int):Option ((Reg×Bool×PUnit)×PUnit):=loopAt Es_TrackRegion [1,1,1,1,0,1,0,0,1,0,0,1,1,1,0,1,0] (Tryz.f7.body.getD .skip) Ks_TrackRegion (dd 2 (V.box none 1 ty26 x2::V.dead::(V.box none 1 ty26 x4::V.d none 2 ty70 x5::V.d none 0 (Ty.int IntKind.i64) x6::V.box none ty75.depth ty75 x7::V.box none ty75.depth ty75 x8::V.d none 0 ty4 x9::V.d none 2 ty78 x10::V.box none 1 ty83 x11::V.d none 0 (Ty.int IntKind.i64) x12::dd 142 ([]))))
def Ls_TrackRegion_6 (x2:Int×List Cel) (x4:Int×List Cel) (x5:List (List (Rat×Rat×Int×Int))) (x6:Int):Option ((Reg×Bool×PUnit)×PUnit):=loopAt Es_TrackRegion [1,1,1,1,0,1,0] (Tryz.f7.body.getD .skip) Ks_TrackRegion (dd 2 (V.box none 1 ty26 x2::V.dead::(V.box none 1 ty26 x4::V.d none 2 ty70 x5::V.d none 0 (Ty.int IntKind.i64) x6::dd 148 ([]))))
def Ss_TrackRegion (a0:List (Rat×Rat×Int×Int)):Option ((Reg×Bool×PUnit)×PUnit):=Fs_TrackRegion.sem (a0,())
def js_TrackRegion:List (Nat×List Nat):=[(1000006,[1,1,1,1,0,1,0]),(1000012,[1,1,1,1,0,1,0,0,1,0,0,1,1,1,0,1,0]),(1000017,[1,1,1,1,0,1,0,0,1,0,0,1,1,1,1,1,0,1,0]),(1000023,[1,1,1,1,0,1,0,0,1,0,0,1,1,1,1,1,0,1,0,0,1,0,0,1,1,1,0])]
theorem js_TrackRegion_ok:okB js_TrackRegion (Tryz.f7.body.getD .skip) []=true:=by kernel_rfl
theorem Ls_TrackRegion_23_eq (x2:Int×List Cel) (x4:Int×List Cel) (x5:List (List (Rat×Rat×Int×Int))) (x6:Int) (x9:Bool) (x11:Int×List Atm) (x13:List (Rat×Int×Int)) (x14:Int) (x15:Rat×Int×Int) (x16:Int):Ls_TrackRegion_23 x2 x4 x5 x6 x9 x11 x13 x14 x15 x16 =
 bif decide (x16 ≥ -1) then
 (getI [IntKind.i64.wrap (IntKind.i64.wrap (x16*x15.fst.fst)*x15.snd.snd),0,0] (IntKind.i64.wrap (1+x14))).bind
 fun y =>
 (getI [IntKind.i64.wrap (IntKind.i64.wrap (x16*x15.fst.fst)*x15.snd.snd),0,0] (IntKind.i64.wrap (1+x14))).bind
  fun y =>
  (getI [IntKind.i64.wrap (IntKind.i64.wrap (x16*x15.fst.fst)*x15.snd.snd),0,0]
   (IntKind.i64.wrap (1+x14))).bind
  fun y =>
  (some
    ([IntKind.i64.wrap (IntKind.i64.wrap (x16*x15.fst.fst)*x15.snd.snd),0,0].set
    (IntKind.i64.wrap (1+x14)).toNat
    (IntKind.i64.wrap (IntKind.i64.wrap (IntKind.i64.wrap (0 - x16)*x15.fst.snd)*x15.snd.snd)))).bind
   fun y =>
   (Ss_l2Atom y (IntKind.i64.wrap (IntKind.i64.wrap (x16*x15.snd.fst)*x15.fst.snd)) false).bind fun y =>
   bif !y.fst.snd.fst then some (((0,[]),false,()),())
   else
    bif decide ((List.length x11.snd+1)*40≤140737488355328) then
    Ls_TrackRegion_23 x2 x4 x5 x6 x9 (x11.fst,x11.snd++[y.fst.fst]) x13 x14 x15 (IntKind.i64.wrap (x16 - 2))
    else none
else Ls_TrackRegion_17 x2 x4 x5 x6 x9 x11 x13 (IntKind.i64.wrap (x14+1)):=(turn_eq js_TrackRegion_ok [1,1,1,1,0,1,0,0,1,0,0,1,1,1,1,1,0,1,0,0,1,0,0,1,1,1,0] (by kernel_rfl) _).trans (by kernel_rfl)
theorem Ls_TrackRegion_17_eq (x2:Int×List Cel) (x4:Int×List Cel) (x5:List (List (Rat×Rat×Int×Int))) (x6:Int) (x9:Bool) (x11:Int×List Atm) (x13:List (Rat×Int×Int)) (x14:Int):Ls_TrackRegion_17 x2 x4 x5 x6 x9 x11 x13 x14 =
 bif decide (x14 < 2) then
 bif !x9 then some (((0,[]),false,()),())
 else (getI x13 x14).bind fun y=>(getI x13 x14).bind fun y=>Ls_TrackRegion_23 x2 x4 x5 x6 x9 x11 x13 x14 y 1
else
 (Ss_l3Normal 3 x11.snd).bind fun y =>
 bif decide ((List.length x4.snd+1)*32≤140737488355328) then
  Ls_TrackRegion_6 x2 (x4.fst,x4.snd++[y.fst.fst]) x5 (IntKind.i64.wrap (x6+1))
 else none:=(turn_eq js_TrackRegion_ok [1,1,1,1,0,1,0,0,1,0,0,1,1,1,1,1,0,1,0] (by kernel_rfl) _).trans (by kernel_rfl)
theorem Ls_TrackRegion_12_eq (x2:Int×List Cel) (x4:Int×List Cel) (x5:List (List (Rat×Rat×Int×Int))) (x6:Int) (x7:Rat×Int×Int) (x8:Rat×Int×Int) (x9:Bool) (x10:List Atm) (x11:Int×List Atm) (x12:Int):Ls_TrackRegion_12 x2 x4 x5 x6 x7 x8 x9 x10 x11 x12 =
 bif decide (x12 < 2) then
 (getI x10 x12).bind fun y =>
 (getI x10 x12).bind fun y =>
  (getI x10 x12).bind fun y =>
  (getI y.fst 0).bind fun y =>
   (getI x10 x12).bind fun y =>
   (getI y.fst 0).bind fun y =>
    (getI x10 x12).bind fun y_1 =>
    (getI x10 x12).bind fun y_2 =>
     bif decide ((List.length x11.snd+1)*40≤140737488355328) then
     Ls_TrackRegion_12 x2 x4 x5 x6 x7 x8 x9 x10 (x11.fst,x11.snd++[([y,0,0],y_2.snd.fst,false)])
      (IntKind.i64.wrap (x12+1))
     else none
else Ls_TrackRegion_17 x2 x4 x5 x6 x9 x11 [x7,x8] 0:=(turn_eq js_TrackRegion_ok [1,1,1,1,0,1,0,0,1,0,0,1,1,1,0,1,0] (by kernel_rfl) _).trans (by kernel_rfl)
theorem Ls_TrackRegion_6_eq (x2:Int×List Cel) (x4:Int×List Cel) (x5:List (List (Rat×Rat×Int×Int))) (x6:Int):Ls_TrackRegion_6 x2 x4 x5 x6 =
 bif decide (x6 < (↑x5.length:Int)) then
 (getI x5 x6).bind fun y =>
 (getI x5 x6).bind fun y =>
  (getI x5 x6).bind fun y =>
  (Ss_l8Lines y).bind fun y =>
   (getI x5 x6).bind fun y_1 =>
   (getI x5 x6).bind fun y_2 =>
    (getI x5 x6).bind fun y_3 =>
    (getI y_3 0).bind fun y_4 =>
     (getI x5 x6).bind fun y_5 =>
     (getI y_5 0).bind fun y_6 =>
      (getI x5 x6).bind fun y_7 =>
      (getI x5 x6).bind fun y_8 =>
       (getI x5 x6).bind fun y_9 =>
       (getI y_9 1).bind fun y_10 =>
        (getI x5 x6).bind fun y_11 =>
        (getI y_11 1).bind fun y_12 =>
         (Ss_l8Ends y_6.fst y_12.fst).bind fun y_13 =>
         Ls_TrackRegion_12 x2 x4 x5 x6 y.fst.fst y.fst.snd.fst y.fst.snd.snd.fst y_13.fst.fst (3,[]) 0
else some ((x4,true,()),()):=(turn_eq js_TrackRegion_ok [1,1,1,1,0,1,0] (by kernel_rfl) _).trans (by kernel_rfl)
theorem Ss_TrackRegion_eq (a0:List (Rat×Rat×Int×Int)):Ss_TrackRegion a0 =
 (Ss_IsTrack a0).bind fun y =>
 bif !y.fst.fst then some (((0,[]),false,()),())
 else (Ss_l8Legs a0).bind fun y=>Ls_TrackRegion_6 (0,[]) (3,[]) y.fst.fst 0:=(Eq.trans (by kernel_rfl:Ss_TrackRegion a0=denK Es_TrackRegion (Tryz.f7.body.getD .skip) Ks_TrackRegion (slots0 155 [(ty29,Mode.ro)] (a0,()))) (all_eq js_TrackRegion_ok _)).trans (by kernel_rfl)
def Ei_IsNumber:Env:=mkEnv C tab_s_TrackRegion [0,1] 9 (fun x=>none) (Hints.mk (fun x x_1=>none) (fun s=>Nat.testBit 0 s) fun x=>[])
 [(ty3,Mode.ro)]
def Ki_IsNumber:=endK C [(ty3,Mode.ro)] [(ty4,0)] [RV.tmp 2]
def Si_IsNumber (a0:Int):Option ((Bool×PUnit)×PUnit):=Fi_IsNumber.sem (a0,())
theorem Si_IsNumber_eq (a0:Int):Si_IsNumber a0 =
 bif decide (a0 ≥ -400000000) then some ((decide (a0≤400000000),()),()) else some ((false,()),()):=by kernel_rfl
def Ei_absolute:Env:=mkEnv C tab_i_IsNumber [0,1] 8 (fun x=>none) (Hints.mk (fun x x_1=>none) (fun s=>Nat.testBit 0 s) fun x=>[])
 [(ty3,Mode.ro)]
def Ki_absolute:=endK C [(ty3,Mode.ro)] [(ty3,0)] [RV.tmp 2]
def Si_absolute (a0:Int):Option ((Int×PUnit)×PUnit):=Fi_absolute.sem (a0,())
theorem Si_absolute_eq (a0:Int):Si_absolute a0 =
 bif decide (a0 < 0) then some ((IntKind.i64.wrap (0 - a0),()),()) else some ((a0,()),()):=by kernel_rfl
def Ei_commonDivisor:Env:=mkEnv C tab_i_absolute [0,1,2,3] 16 (fun k=>bif k == 1000002 then some 3 else none)
 (Hints.mk (fun x x_1=>none) (fun s=>Nat.testBit 0 s) fun x=>[]) [(ty3,Mode.ro),(ty3,Mode.ro)]
def Ki_commonDivisor:=endK C [(ty3,Mode.ro),(ty3,Mode.ro)] [(ty3,0)] [RV.tmp 4]
def Li_commonDivisor_2 (x0:Int) (x1:Int):Option ((Int×PUnit)×PUnit):=loopAt Ei_commonDivisor [1,1,0,0] (Tryz.f137.body.getD .skip) Ki_commonDivisor (V.d none 0 ty3 x0::V.d none 0 ty3 x1::dd 14 ([]))
def Si_commonDivisor (a0:Int) (a1:Int):Option ((Int×PUnit)×PUnit):=Fi_commonDivisor.sem (a0,a1,())
def ji_commonDivisor:List (Nat×List Nat):=[(1000002,[1,1,0,0])]
theorem ji_commonDivisor_ok:okB ji_commonDivisor (Tryz.f137.body.getD .skip) []=true:=by kernel_rfl
theorem Li_commonDivisor_2_eq (x0:Int) (x1:Int):Li_commonDivisor_2 x0 x1 =
 bif x1 != 0 then bif x1 != 0 then Li_commonDivisor_2 x1 (x0.tmod x1) else none else some ((x0,()),()):=(turn_eq ji_commonDivisor_ok [1,1,0,0] (by kernel_rfl) _).trans (by kernel_rfl)
theorem Si_commonDivisor_eq (a0:Int) (a1:Int):Si_commonDivisor a0 a1 =
 (Si_absolute a0).bind fun y=>(Si_absolute a1).bind fun y_1=>Li_commonDivisor_2 y.fst.fst y_1.fst.fst:=(Eq.trans (by kernel_rfl:Si_commonDivisor a0 a1=denK Ei_commonDivisor (Tryz.f137.body.getD .skip) Ki_commonDivisor (slots0 16 [(ty3,Mode.ro),(ty3,Mode.ro)] (a0,a1,()))) (all_eq ji_commonDivisor_ok _)).trans (by kernel_rfl)
def Ei_GcdOf:Env:=mkEnv C tab_i_commonDivisor [0,1,2,3] 16 (fun x=>none)
 (Hints.mk (fun x x_1=>none) (fun s=>Nat.testBit 0 s) fun x=>[]) [(ty3,Mode.ro),(ty3,Mode.ro)]
def Ki_GcdOf:=endK C [(ty3,Mode.ro),(ty3,Mode.ro)] [(ty3,0)] [RV.tmp 4]
def Si_GcdOf (a0:Int) (a1:Int):Option ((Int×PUnit)×PUnit):=Fi_GcdOf.sem (a0,a1,())
theorem Si_GcdOf_eq (a0:Int) (a1:Int):Si_GcdOf a0 a1 =
 (Si_IsNumber a0).bind fun y =>
 bif !y.fst.fst then some ((0,()),())
 else
 (Si_IsNumber a1).bind fun y =>
  bif !y.fst.fst then some ((0,()),()) else (Si_commonDivisor a0 a1).bind fun y=>some ((y.fst.fst,()),()):=by kernel_rfl
def Ei_IsRatio:Env:=mkEnv C tab_i_GcdOf [0,1,3,7,12,17,19] 24 (fun x=>none)
 (Hints.mk (fun x x_1=>none) (fun s=>Nat.testBit 0 s) fun x=>[]) [(ty73,Mode.ro)]
def Ki_IsRatio:=endK C [(ty73,Mode.ro)] [(ty4,0)] [RV.tmp 2]
def Si_IsRatio (a0:Rat):Option ((Bool×PUnit)×PUnit):=Fi_IsRatio.sem (a0,())
theorem Si_IsRatio_eq (a0:Rat):Si_IsRatio a0 =
 bif decide (a0.snd≥1) then
 bif decide (a0.snd≤400000000) then
 (Si_IsNumber a0.fst).bind fun y =>
  bif y.fst.fst then (Si_GcdOf a0.fst a0.snd).bind fun y=>some ((y.fst.fst == 1,()),()) else some ((false,()),())
 else some ((false,()),())
else some ((false,()),()):=by kernel_rfl
def Ei_CompareRatios:Env:=mkEnv C tab_i_IsRatio [0,1,2,3,5,6,15,17,20,22] 31 (fun x=>none)
 (Hints.mk (fun x x_1=>none) (fun s=>Nat.testBit 0 s) fun x=>[]) [(ty73,Mode.ro),(ty73,Mode.ro)]
def Ki_CompareRatios:=endK C [(ty73,Mode.ro),(ty73,Mode.ro)] [(ty3,0)] [RV.tmp 4]
def Si_CompareRatios (a0:Rat) (a1:Rat):Option ((Int×PUnit)×PUnit):=Fi_CompareRatios.sem (a0,a1,())
theorem Si_CompareRatios_eq (a0:Rat) (a1:Rat):Si_CompareRatios a0 a1 =
 (Si_IsRatio a0).bind fun y =>
 bif !y.fst.fst then some ((2,()),())
 else
 (Si_IsRatio a1).bind fun y =>
  bif !y.fst.fst then some ((2,()),())
  else
  bif decide (IntKind.i64.wrap (a0.fst*a1.snd) < IntKind.i64.wrap (a1.fst*a0.snd)) then some ((-1,()),())
  else
   bif decide (IntKind.i64.wrap (a0.fst*a1.snd) > IntKind.i64.wrap (a1.fst*a0.snd)) then some ((1,()),())
   else some ((0,()),()):=by kernel_rfl
def Ei_IsTrack:Env:=mkEnv C tab_i_CompareRatios [0,1,3,4,13,18,20,25,31,39,42,43,45] 51
 (fun k=>bif k == 1000004 then some 57345 else none)
 (Hints.mk (fun x x_1=>none) (fun s=>Nat.testBit 0 s) fun x=>[]) [(ty29,Mode.ro)]
def Ki_IsTrack:=endK C [(ty29,Mode.ro)] [(ty4,0)] [RV.tmp 2]
def Li_IsTrack_4 (x0:List (Rat×Rat×Int×Int)) (x13:List (Rat×Rat×Int×Int)) (x14:Int) (x15:Int):Option ((Bool×PUnit)×PUnit):=loopAt Ei_IsTrack [1,1,0,1,0] (Tryz.f95.body.getD .skip) Ki_IsTrack (V.d none 0 ty29 x0::dd 12 (V.d none 0 ty29 x13::V.d none 0 (Ty.int IntKind.i64) x14::V.d none 0 (Ty.int IntKind.i64) x15::dd 35 ([])))
def Si_IsTrack (a0:List (Rat×Rat×Int×Int)):Option ((Bool×PUnit)×PUnit):=Fi_IsTrack.sem (a0,())
def ji_IsTrack:List (Nat×List Nat):=[(1000004,[1,1,0,1,0])]
theorem ji_IsTrack_ok:okB ji_IsTrack (Tryz.f95.body.getD .skip) []=true:=by kernel_rfl
theorem Li_IsTrack_4_eq (x0:List (Rat×Rat×Int×Int)) (x13:List (Rat×Rat×Int×Int)) (x14:Int) (x15:Int):Li_IsTrack_4 x0 x13 x14 x15 =
 bif decide (x15 < x14) then
 (getI x13 x15).bind fun y =>
 (Si_IsRatio y.fst).bind fun y_1 =>
  bif !y_1.fst.fst then some ((false,()),())
  else
  (Si_IsRatio y.snd.fst).bind fun y_2 =>
   bif !y_2.fst.fst then some ((false,()),())
   else
   (Si_IsRatio y.snd.snd).bind fun y_3 =>
    bif !y_3.fst.fst then some ((false,()),())
    else
    bif decide (x15 > 0) then
     (getI x0 (IntKind.i64.wrap (x15 - 1))).bind fun y_4 =>
     (Si_CompareRatios y_4.fst y.fst).bind fun y =>
      bif y.fst.fst != -1 then some ((false,()),()) else Li_IsTrack_4 x0 x13 x14 (IntKind.i64.wrap (x15+1))
    else Li_IsTrack_4 x0 x13 x14 (IntKind.i64.wrap (x15+1))
else some ((true,()),()):=(turn_eq ji_IsTrack_ok [1,1,0,1,0] (by kernel_rfl) _).trans (by kernel_rfl)
theorem Si_IsTrack_eq (a0:List (Rat×Rat×Int×Int)):Si_IsTrack a0 =
 bif decide ((↑a0.length:Int) < 1) then some ((false,()),())
else bif decide ((↑a0.length:Int) > 6) then some ((false,()),()) else Li_IsTrack_4 a0 a0 (↑a0.length:Int) 0:=(Eq.trans (by kernel_rfl:Si_IsTrack a0=denK Ei_IsTrack (Tryz.f95.body.getD .skip) Ki_IsTrack (slots0 51 [(ty29,Mode.ro)] (a0,()))) (all_eq ji_IsTrack_ok _)).trans (by kernel_rfl)
def Ei_NegateRatio:Env:=mkEnv C tab_i_IsTrack [0,1,2,7,10] 13 (fun x=>none)
 (Hints.mk (fun x x_1=>none) (fun s=>Nat.testBit 0 s) fun x=>[]) [(ty73,Mode.ro)]
def Ki_NegateRatio:=endK C [(ty73,Mode.ro)] [(ty73,0)] [RV.cell 2 73]
def Si_NegateRatio (a0:Rat):Option ((Rat×PUnit)×PUnit):=Fi_NegateRatio.sem (a0,())
theorem Si_NegateRatio_eq (a0:Rat):Si_NegateRatio a0 =
 (Si_IsRatio a0).bind fun y =>
 bif !y.fst.fst then some (((0,0),()),()) else some (((IntKind.i64.wrap (0 - a0.fst),a0.snd),()),()):=by kernel_rfl
def Ei_reducedRatio:Env:=mkEnv C tab_i_NegateRatio [0,1,2,3,4,5,6] 31 (fun x=>none)
 (Hints.mk (fun x x_1=>none) (fun s=>Nat.testBit 0 s) fun x=>[]) [(ty3,Mode.ro),(ty3,Mode.ro)]
def Ki_reducedRatio:=endK C [(ty3,Mode.ro),(ty3,Mode.ro)] [(ty73,0)] [RV.cell 4 73]
def Si_reducedRatio (a0:Int) (a1:Int):Option ((Rat×PUnit)×PUnit):=Fi_reducedRatio.sem (a0,a1,())
theorem Si_reducedRatio_eq (a0:Int) (a1:Int):Si_reducedRatio a0 a1 =
 bif a1 == 0 then some (((0,0),()),())
else
 bif decide (a1 < 0) then
 (Si_commonDivisor (IntKind.i64.wrap (0 - a0)) (IntKind.i64.wrap (0 - a1))).bind fun y =>
  bif y.fst.fst != 0 then
  bif y.fst.fst != 0 then
   (Si_IsRatio
    (IntKind.i64.wrap ((IntKind.i64.wrap (0 - a0)).tdiv y.fst.fst),
     IntKind.i64.wrap ((IntKind.i64.wrap (0 - a1)).tdiv y.fst.fst))).bind
   fun y_1 =>
   bif !y_1.fst.fst then some (((0,0),()),())
   else
    some
    (((IntKind.i64.wrap ((IntKind.i64.wrap (0 - a0)).tdiv y.fst.fst),
      IntKind.i64.wrap ((IntKind.i64.wrap (0 - a1)).tdiv y.fst.fst)),
     ()),
     ())
  else none
  else none
 else
 (Si_commonDivisor a0 a1).bind fun y =>
  bif y.fst.fst != 0 then
  bif y.fst.fst != 0 then
   (Si_IsRatio (IntKind.i64.wrap (a0.tdiv y.fst.fst),IntKind.i64.wrap (a1.tdiv y.fst.fst))).bind fun y_1 =>
   bif !y_1.fst.fst then some (((0,0),()),())
   else some (((IntKind.i64.wrap (a0.tdiv y.fst.fst),IntKind.i64.wrap (a1.tdiv y.fst.fst)),()),())
  else none
  else none:=by kernel_rfl
def Ei_AddRatios:Env:=mkEnv C tab_i_reducedRatio [0,1,2,3,4,14,16,19,21,25,27] 31 (fun x=>none)
 (Hints.mk (fun x x_1=>none) (fun s=>Nat.testBit 0 s) fun x=>[]) [(ty73,Mode.ro),(ty73,Mode.ro)]
def Ki_AddRatios:=endK C [(ty73,Mode.ro),(ty73,Mode.ro)] [(ty73,0)] [RV.cell 4 73]
def Si_AddRatios (a0:Rat) (a1:Rat):Option ((Rat×PUnit)×PUnit):=Fi_AddRatios.sem (a0,a1,())
theorem Si_AddRatios_eq (a0:Rat) (a1:Rat):Si_AddRatios a0 a1 =
 (Si_IsRatio a0).bind fun y =>
 bif !y.fst.fst then some (((0,0),()),())
 else
 (Si_IsRatio a1).bind fun y =>
  bif !y.fst.fst then some (((0,0),()),())
  else
  (Si_reducedRatio (IntKind.i64.wrap (IntKind.i64.wrap (a0.fst*a1.snd)+IntKind.i64.wrap (a1.fst*a0.snd)))
    (IntKind.i64.wrap (a0.snd*a1.snd))).bind
   fun y=>some ((y.fst.fst,()),()):=by kernel_rfl
def Ei_subtractRatios:Env:=mkEnv C tab_i_AddRatios [0,1,2,3,4] 9 (fun x=>none)
 (Hints.mk (fun x x_1=>none) (fun s=>Nat.testBit 0 s) fun x=>[]) [(ty73,Mode.ro),(ty73,Mode.ro)]
def Ki_subtractRatios:=endK C [(ty73,Mode.ro),(ty73,Mode.ro)] [(ty73,0)] [RV.cell 4 73]
def Si_subtractRatios (a0:Rat) (a1:Rat):Option ((Rat×PUnit)×PUnit):=Fi_subtractRatios.sem (a0,a1,())
theorem Si_subtractRatios_eq (a0:Rat) (a1:Rat):Si_subtractRatios a0 a1 =
 (Si_NegateRatio a1).bind fun y=>(Si_AddRatios a0 y.fst.fst).bind fun y=>some ((y.fst.fst,()),()):=by kernel_rfl
def Ei_DivideRatios:Env:=mkEnv C tab_i_subtractRatios [0,1,2,3,4,14,19,21,24,26] 30 (fun x=>none)
 (Hints.mk (fun x x_1=>none) (fun s=>Nat.testBit 0 s) fun x=>[]) [(ty73,Mode.ro),(ty73,Mode.ro)]
def Ki_DivideRatios:=endK C [(ty73,Mode.ro),(ty73,Mode.ro)] [(ty73,0)] [RV.cell 4 73]
def Si_DivideRatios (a0:Rat) (a1:Rat):Option ((Rat×PUnit)×PUnit):=Fi_DivideRatios.sem (a0,a1,())
theorem Si_DivideRatios_eq (a0:Rat) (a1:Rat):Si_DivideRatios a0 a1 =
 (Si_IsRatio a0).bind fun y =>
 bif !y.fst.fst then some (((0,0),()),())
 else
 (Si_IsRatio a1).bind fun y =>
  bif !y.fst.fst then some (((0,0),()),())
  else
  bif a1.fst == 0 then some (((0,0),()),())
  else
   (Si_reducedRatio (IntKind.i64.wrap (a0.fst*a1.snd)) (IntKind.i64.wrap (a0.snd*a1.fst))).bind fun y =>
   some ((y.fst.fst,()),()):=by kernel_rfl
def Ei_MultiplyRatios:Env:=mkEnv C tab_i_DivideRatios [0,1,2,3,4,14,16,19,21] 25 (fun x=>none)
 (Hints.mk (fun x x_1=>none) (fun s=>Nat.testBit 0 s) fun x=>[]) [(ty73,Mode.ro),(ty73,Mode.ro)]
def Ki_MultiplyRatios:=endK C [(ty73,Mode.ro),(ty73,Mode.ro)] [(ty73,0)] [RV.cell 4 73]
def Si_MultiplyRatios (a0:Rat) (a1:Rat):Option ((Rat×PUnit)×PUnit):=Fi_MultiplyRatios.sem (a0,a1,())
theorem Si_MultiplyRatios_eq (a0:Rat) (a1:Rat):Si_MultiplyRatios a0 a1 =
 (Si_IsRatio a0).bind fun y =>
 bif !y.fst.fst then some (((0,0),()),())
 else
 (Si_IsRatio a1).bind fun y =>
  bif !y.fst.fst then some (((0,0),()),())
  else
  (Si_reducedRatio (IntKind.i64.wrap (a0.fst*a1.fst)) (IntKind.i64.wrap (a0.snd*a1.snd))).bind fun y =>
   some ((y.fst.fst,()),()):=by kernel_rfl
def Ei_lineBetween:Env:=mkEnv C tab_i_MultiplyRatios [0,1,2,3,4,5,6,7,8,9] 24 (fun x=>none)
 (Hints.mk (fun x x_1=>none) (fun s=>Nat.testBit 0 s) fun x=>[])
 [(ty73,Mode.ro),(ty73,Mode.ro),(ty73,Mode.ro),(ty73,Mode.ro)]
def Ki_lineBetween:=endK C [(ty73,Mode.ro),(ty73,Mode.ro),(ty73,Mode.ro),(ty73,Mode.ro)] [(ty98,0)] [RV.cell 8 98]
def Si_lineBetween (a0:Rat) (a1:Rat) (a2:Rat) (a3:Rat):Option (((Rat×Int×Int)×PUnit)×PUnit):=Fi_lineBetween.sem (a0,a1,a2,a3,())
theorem Si_lineBetween_eq (a0:Rat) (a1:Rat) (a2:Rat) (a3:Rat):Si_lineBetween a0 a1 a2 a3 =
 (Si_subtractRatios a2 a0).bind fun y =>
 (Si_subtractRatios a3 a1).bind fun y_1 =>
 (Si_DivideRatios y.fst.fst y_1.fst.fst).bind fun y =>
  (Si_MultiplyRatios y.fst.fst a1).bind fun y_2 =>
  (Si_subtractRatios a0 y_2.fst.fst).bind fun y_3=>some (((y.fst.fst,y_3.fst.fst),()),()):=by kernel_rfl
def Ei_line_valid:Env:=mkEnv C tab_i_lineBetween [0,1,3,7] 11 (fun x=>none)
 (Hints.mk (fun x x_1=>none) (fun s=>Nat.testBit 0 s) fun x=>[]) [(ty98,Mode.ro)]
def Ki_line_valid:=endK C [(ty98,Mode.ro)] [(ty4,0)] [RV.tmp 2]
def Si_line_valid (a0:Rat×Int×Int):Option ((Bool×PUnit)×PUnit):=Fi_line_valid.sem (a0,())
theorem Si_line_valid_eq (a0:Rat×Int×Int):Si_line_valid a0 =
 (Si_IsRatio a0.fst).bind fun y =>
 bif y.fst.fst then (Si_IsRatio a0.snd).bind fun y=>some ((y.fst.fst,()),()) else some ((false,()),()):=by kernel_rfl
def Ei_legBetween:Env:=mkEnv C tab_i_line_valid [0,1,2,3,4,6,7,9,11,13,15,17,20,22,24,26,31,35] 39 (fun x=>none)
 (Hints.mk (fun x x_1=>none) (fun s=>Nat.testBit 0 s) fun x=>[]) [(ty81,Mode.ro),(ty81,Mode.ro)]
def Ki_legBetween:=endK C [(ty81,Mode.ro),(ty81,Mode.ro)] [(ty100,0),(ty4,0)] [RV.cell 4 100,RV.tmp 5]
def Si_legBetween (a0:Rat×Rat×Int×Int) (a1:Rat×Rat×Int×Int):Option (((Rat×Rat×(Rat×Int×Int)×Rat×Int×Int)×Bool×PUnit)×PUnit):=Fi_legBetween.sem (a0,a1,())
theorem Si_legBetween_eq (a0:Rat×Rat×Int×Int) (a1:Rat×Rat×Int×Int):Si_legBetween a0 a1 =
 (Si_lineBetween a0.snd.fst a0.fst a1.snd.fst a1.fst).bind fun y =>
 (Si_lineBetween a0.snd.snd a0.fst a1.snd.snd a1.fst).bind fun y_1 =>
 (Si_line_valid y.fst.fst).bind fun y_2 =>
  bif y_2.fst.fst then
  (Si_line_valid y_1.fst.fst).bind fun y_3=>some (((a0.fst,a1.fst,y.fst.fst,y_1.fst.fst),y_3.fst.fst,()),())
  else some (((a0.fst,a1.fst,y.fst.fst,y_1.fst.fst),false,()),()):=by kernel_rfl
def Ei_legsOf:Env:=mkEnv C tab_i_legBetween [0,1,4,5,6,7,8,9,16,17,20,22,25,29,41,42,45,47,49] 61
 (fun k=>bif k == 1000008 then some 193 else none)
 (Hints.mk (fun d i=>bif d == 41 then bif i == 0 then some 52 else bif i == 1 then some 53 else none else none)
 (fun s=>Nat.testBit 0 s) fun x=>[])
 [(ty29,Mode.ro)]
def Ki_legsOf:=endK C [(ty29,Mode.ro)] [(ty94,1),(ty4,0)] [RV.tmp 2,RV.tmp 3]
def Li_legsOf_8 (x0:List (Rat×Rat×Int×Int)) (x6:List (Rat×Rat×(Rat×Int×Int)×Rat×Int×Int)) (x7:Int):Option ((List (Rat×Rat×(Rat×Int×Int)×Rat×Int×Int)×Bool×PUnit)×PUnit):=loopAt Ei_legsOf [1,1,1,1,0,1,0] (Tryz.f42.body.getD .skip) Ki_legsOf (V.d none 0 ty29 x0::dd 5 (V.d none (ty100.depth+1) (Ty.slice 100 ty100) x6::V.d none 0 (Ty.int IntKind.i64) x7::dd 53 ([])))
def Si_legsOf (a0:List (Rat×Rat×Int×Int)):Option ((List (Rat×Rat×(Rat×Int×Int)×Rat×Int×Int)×Bool×PUnit)×PUnit):=Fi_legsOf.sem (a0,())
def ji_legsOf:List (Nat×List Nat):=[(1000008,[1,1,1,1,0,1,0])]
theorem ji_legsOf_ok:okB ji_legsOf (Tryz.f42.body.getD .skip) []=true:=by kernel_rfl
theorem Li_legsOf_8_eq (x0:List (Rat×Rat×Int×Int)) (x6:List (Rat×Rat×(Rat×Int×Int)×Rat×Int×Int)) (x7:Int):Li_legsOf_8 x0 x6 x7 =
 bif decide (x7 < (↑x0.length:Int)) then
 (getI x0 (IntKind.i64.wrap (x7 - 1))).bind fun y =>
 (getI x0 x7).bind fun y_1 =>
  (Si_legBetween y y_1).bind fun y =>
  bif !y.fst.snd.fst then some (([],false,()),())
  else
   bif decide ((x6.length+1)*96≤140737488355328) then
   Li_legsOf_8 x0 (x6++[y.fst.fst]) (IntKind.i64.wrap (x7+1))
   else none
else some ((x6,true,()),()):=(turn_eq ji_legsOf_ok [1,1,1,1,0,1,0] (by kernel_rfl) _).trans (by kernel_rfl)
theorem Si_legsOf_eq (a0:List (Rat×Rat×Int×Int)):Si_legsOf a0 =
 (Si_IsTrack a0).bind fun y =>
 bif !y.fst.fst then some (([],false,()),())
 else
 bif (↑a0.length:Int) == 1 then
  (getI a0 0).bind fun y=>some (([(y.fst,y.fst,((0,1),y.snd.fst),(0,1),y.snd.snd)],true,()),())
 else Li_legsOf_8 a0 [] 1:=(Eq.trans (by kernel_rfl:Si_legsOf a0=denK Ei_legsOf (Tryz.f42.body.getD .skip) Ki_legsOf (slots0 61 [(ty29,Mode.ro)] (a0,()))) (all_eq ji_legsOf_ok _)).trans (by kernel_rfl)
def Ei_leg_during:Env:=mkEnv C tab_i_legsOf [0,1,2,3,5,6,11,12,13,14,17,18,23,24,28,29] 34 (fun x=>none)
 (Hints.mk (fun x x_1=>none)
 (fun s =>
  Nat.testBit
  13559683508538489953618012803355014403221403281771594721411405624228334430489992120557655612640430653184217908009411143945363568454718016480253233829757432649380970673779078305140287965932643878659855828412607080245098676675793027451286451451666630408171526935254406732950296390924611165487908881571149346358486939286852155349908777684465426015189441004143870571091600709935770166960978688772796225751061680514501657230112493847354983226460431552553006067100806620826207650338288875596080245311059820862203575134080848455072149293209385559445826955745941066295507054873664617750931738870607112349495766769000689203411769286645613358597868457832289777736317570177233725044485775008888020959489752183104663563186865593501246834771057060450846604347160378987437431093888421050516571580046389238492028424344021034383577707194370791992512831386271925865951797470331731856109525101863859750873232334271172167076463295883975540461060888053007863211068749287373047147238742118217924347062348196187935295018704917969135714150382593997199160328644013947380523843729484961546833542247263457854970650331588114484318601582883361500641485599794955497482377602265089185034729510592293781556404633952417366548031932036905349692184917201372112981476520559828142379195106421075566047765346256501648294440501549027117607564591766526871674252224372226660219210232538906309836630539527081749771979539040745699246000645124474549551427227264201694123484547819715616189051456409394757010458915662188687758129905360232728050423300096
  s)
 fun r=>bif r == 5 then [11,20,22] else bif r == 6 then [12,21,27] else [])
 [(ty100,Mode.ro),(ty3,Mode.ro)]
def Ki_leg_during:=endK C [(ty100,Mode.ro),(ty3,Mode.ro)] [(ty78,2)] [RV.tmp 4]
def Si_leg_during (a0:Rat×Rat×(Rat×Int×Int)×Rat×Int×Int) (a1:Int):Option ((List Atm×PUnit)×PUnit):=Fi_leg_during.sem (a0,a1,())
theorem Si_leg_during_eq (a0:Rat×Rat×(Rat×Int×Int)×Rat×Int×Int) (a1:Int):Si_leg_during a0 a1 =
 bif
 decide (0≤a1) && decide (a1≤a1) && decide (a1*(↑8:Int)≤140737488355328) &&
  decide (a1≤9223372036854775807) then
 bif
  decide (0≤a1) && decide (a1≤a1) && decide (a1*(↑8:Int)≤140737488355328) &&
  decide (a1≤9223372036854775807) then
 (getI (List.replicate a1.toNat (0:Int)) 0).bind fun y =>
  (getI (List.replicate a1.toNat (0:Int)) 0).bind fun y =>
  (getI (List.replicate a1.toNat (0:Int)) 0).bind fun y =>
   (some ((List.replicate a1.toNat (0:Int)).set (Int.toNat 0) (IntKind.i64.wrap (0 - a0.fst.snd)))).bind fun y =>
   (getI (List.replicate a1.toNat (0:Int)) 0).bind fun y_1 =>
    (getI (List.replicate a1.toNat (0:Int)) 0).bind fun y_2 =>
    (getI (List.replicate a1.toNat (0:Int)) 0).bind fun y_3 =>
     (some ((List.replicate a1.toNat (0:Int)).set (Int.toNat 0) a0.snd.fst.snd)).bind fun y_4 =>
     some (([(y,a0.fst.fst,false),(y_4,IntKind.i64.wrap (0 - a0.snd.fst.fst),false)],()),())
 else none
else none:=by kernel_rfl
def Ei_divisorOf:Env:=mkEnv C tab_i_leg_during [0,1,3,4,5,6,10] 17 (fun k=>bif k == 1000003 then some 457 else none)
 (Hints.mk (fun x x_1=>none) (fun s=>Nat.testBit 0 s) fun x=>[]) [(ty59,Mode.ro)]
def Ki_divisorOf:=endK C [(ty59,Mode.ro)] [(ty3,0)] [RV.tmp 2]
def Li_divisorOf_3 (x0:List Int) (x3:Int) (x6:List Int) (x7:Int) (x8:Int):Option ((Int×PUnit)×PUnit):=loopAt Ei_divisorOf [1,1,0,1,0] (Tryz.f138.body.getD .skip) Ki_divisorOf (V.d none 0 ty59 x0::dd 2 (V.d none 0 (Ty.int IntKind.i64) x3::dd 2 (V.d none 0 ty59 x6::V.d none 0 (Ty.int IntKind.i64) x7::V.d none 0 (Ty.int IntKind.i64) x8::dd 8 ([]))))
def Si_divisorOf (a0:List Int):Option ((Int×PUnit)×PUnit):=Fi_divisorOf.sem (a0,())
def ji_divisorOf:List (Nat×List Nat):=[(1000003,[1,1,0,1,0])]
theorem ji_divisorOf_ok:okB ji_divisorOf (Tryz.f138.body.getD .skip) []=true:=by kernel_rfl
theorem Li_divisorOf_3_eq (x0:List Int) (x3:Int) (x6:List Int) (x7:Int) (x8:Int):Li_divisorOf_3 x0 x3 x6 x7 x8 =
 bif decide (x8 < x7) then
 (getI x6 x8).bind fun y =>
 (Si_commonDivisor x3 y).bind fun y=>Li_divisorOf_3 x0 y.fst.fst x6 x7 (IntKind.i64.wrap (x8+1))
else some ((x3,()),()):=(turn_eq ji_divisorOf_ok [1,1,0,1,0] (by kernel_rfl) _).trans (by kernel_rfl)
theorem Si_divisorOf_eq (a0:List Int):Si_divisorOf a0 =
 Li_divisorOf_3 a0 0 a0 (↑a0.length:Int) 0:=(Eq.trans (by kernel_rfl:Si_divisorOf a0=denK Ei_divisorOf (Tryz.f138.body.getD .skip) Ki_divisorOf (slots0 17 [(ty59,Mode.ro)] (a0,()))) (all_eq ji_divisorOf_ok _)).trans (by kernel_rfl)
def Ei_IsAtom:Env:=mkEnv C tab_i_divisorOf [0,1,3,4,5,10,15,16,20,26,29] 33
 (fun k=>bif k == 1 then some 6 else bif k == 3 then some 6 else bif k == 1000004 then some 458754 else none)
 (Hints.mk (fun x x_1=>none) (fun s=>Nat.testBit 2 s) fun r=>bif r == 1 then [6,16,20,27] else [])
 [(ty85,Mode.ro)]
def Ki_IsAtom:=endK C [(ty85,Mode.ro)] [(ty4,0)] [RV.tmp 2]
def Li_IsAtom_4 (x1:Atm) (x16:List Int) (x17:Int) (x18:Int):Option ((Bool×PUnit)×PUnit):=loopAt Ei_IsAtom [1,1,0,1,0] (Tryz.f139.body.getD .skip) Ki_IsAtom (V.dead::(V.box none 0 ty85 x1::dd 14 (V.d none 0 ty59 x16::V.d none 0 (Ty.int IntKind.i64) x17::V.d none 0 (Ty.int IntKind.i64) x18::dd 14 ([]))))
def Si_IsAtom (a0:Atm):Option ((Bool×PUnit)×PUnit):=Fi_IsAtom.sem (a0,())
def ji_IsAtom:List (Nat×List Nat):=[(1000004,[1,1,0,1,0])]
theorem ji_IsAtom_ok:okB ji_IsAtom (Tryz.f139.body.getD .skip) []=true:=by kernel_rfl
theorem Li_IsAtom_4_eq (x1:Atm) (x16:List Int) (x17:Int) (x18:Int):Li_IsAtom_4 x1 x16 x17 x18 =
 bif decide (x18 < x17) then
 (getI x16 x18).bind fun y =>
 (Si_IsNumber y).bind fun y =>
  bif !y.fst.fst then some ((false,()),()) else Li_IsAtom_4 x1 x16 x17 (IntKind.i64.wrap (x18+1))
else
 (Si_divisorOf x1.fst).bind fun y =>
 (Si_commonDivisor y.fst.fst x1.snd.fst).bind fun y=>some ((decide (y.fst.fst≤1),()),()):=(turn_eq ji_IsAtom_ok [1,1,0,1,0] (by kernel_rfl) _).trans (by kernel_rfl)
theorem Si_IsAtom_eq (a0:Atm):Si_IsAtom a0 =
 bif decide ((↑(List.length a0.fst):Int) > 4) then some ((false,()),())
else
 (Si_IsNumber a0.snd.fst).bind fun y =>
 bif !y.fst.fst then some ((false,()),()) else Li_IsAtom_4 a0 a0.fst (↑(List.length a0.fst):Int) 0:=(Eq.trans (by kernel_rfl:Si_IsAtom a0=denK Ei_IsAtom (Tryz.f139.body.getD .skip) Ki_IsAtom (slots0 33 [(ty85,Mode.ro)] (a0,()))) (all_eq ji_IsAtom_ok _)).trans (by kernel_rfl)
def Ei_makeOf:Env:=mkEnv C tab_i_IsAtom [0,1,2,3,4,5,6,8,9,10,11,26,31,33,34] 46
 (fun k =>
 bif k == 4 then some 455
 else
  bif k == 5 then some 961
  else
  bif k == 8 then some 469766081
  else bif k == 11 then some 192 else bif k == 12 then some 704 else bif k == 1000006 then some 469762881 else none)
 (Hints.mk (fun x x_1=>none) (fun s=>Nat.testBit 576 s) fun r =>
 bif r == 6 then [] else bif r == 9 then [34,39,41,45] else [])
 [(ty59,Mode.ro),(ty3,Mode.ro),(ty4,Mode.ro)]
def Ki_makeOf:=endK C [(ty59,Mode.ro),(ty3,Mode.ro),(ty4,Mode.ro)] [(ty85,1),(ty4,0)] [RV.cell 6 85,RV.tmp 7]
def Li_makeOf_6 (x0:List Int) (x6:Atm) (x8:Int) (x9:Atm) (x26:List Int) (x27:Int) (x28:Int):Option ((Atm×Bool×PUnit)×PUnit):=loopAt Ei_makeOf [1,1,1,1,0,1,0] (Tryz.f97.body.getD .skip) Ki_makeOf (V.d none 0 ty59 x0::dd 5 (V.box none ty85.depth ty85 x6::V.dead::(V.d none 0 (Ty.int IntKind.i64) x8::V.box none ty85.depth ty85 x9::dd 16 (V.d none 0 ty59 x26::V.d none 0 (Ty.int IntKind.i64) x27::V.d none 0 (Ty.int IntKind.i64) x28::dd 17 ([])))))
def Si_makeOf (a0:List Int) (a1:Int) (a2:Bool):Option ((Atm×Bool×PUnit)×PUnit):=Fi_makeOf.sem (a0,a1,a2,())
def ji_makeOf:List (Nat×List Nat):=[(1000006,[1,1,1,1,0,1,0])]
theorem ji_makeOf_ok:okB ji_makeOf (Tryz.f97.body.getD .skip) []=true:=by kernel_rfl
theorem Li_makeOf_6_eq (x0:List Int) (x6:Atm) (x8:Int) (x9:Atm) (x26:List Int) (x27:Int) (x28:Int):Li_makeOf_6 x0 x6 x8 x9 x26 x27 x28 =
 bif decide (x28 < x27) then
 (getI x26 x28).bind fun y =>
 bif x8 != 0 then
  (getI x9.fst x28).bind fun y_1 =>
  (getI x9.fst x28).bind fun y_2 =>
   (getI x9.fst x28).bind fun y_3 =>
   (some (List.set x9.fst x28.toNat (IntKind.i64.wrap (y.tdiv x8)))).bind fun y =>
    Li_makeOf_6 x0 x6 x8 (y,x9.snd) x26 x27 (IntKind.i64.wrap (x28+1))
 else none
else
 (Si_IsAtom x9).bind fun y=>bif !y.fst.fst then some ((([],0,false),false,()),()) else some ((x9,true,()),()):=(turn_eq ji_makeOf_ok [1,1,1,1,0,1,0] (by kernel_rfl) _).trans (by kernel_rfl)
theorem Si_makeOf_eq (a0:List Int) (a1:Int) (a2:Bool):Si_makeOf a0 a1 a2 =
 (Si_divisorOf a0).bind fun y =>
 (Si_commonDivisor y.fst.fst a1).bind fun y =>
 bif y.fst.fst == 0 then
  bif
   decide (0≤(↑a0.length:Int)) && decide ((↑a0.length:Int)≤(↑a0.length:Int)) &&
    decide ((↑a0.length:Int)*(↑8:Int)≤140737488355328) &&
   decide ((↑a0.length:Int)≤9223372036854775807) then
  Li_makeOf_6 a0 ([],0,false) 1 (List.replicate a0.length (0:Int),IntKind.i64.wrap (a1.tdiv 1),a2) a0 (↑a0.length:Int)
   0
  else none
 else
  bif
   decide (0≤(↑a0.length:Int)) && decide ((↑a0.length:Int)≤(↑a0.length:Int)) &&
    decide ((↑a0.length:Int)*(↑8:Int)≤140737488355328) &&
   decide ((↑a0.length:Int)≤9223372036854775807) then
  bif y.fst.fst != 0 then
   Li_makeOf_6 a0 ([],0,false) y.fst.fst (List.replicate a0.length (0:Int),IntKind.i64.wrap (a1.tdiv y.fst.fst),a2) a0
   (↑a0.length:Int) 0
  else none
  else none:=(Eq.trans (by kernel_rfl:Si_makeOf a0 a1 a2=denK Ei_makeOf (Tryz.f97.body.getD .skip) Ki_makeOf (slots0 46 [(ty59,Mode.ro),(ty3,Mode.ro),(ty4,Mode.ro)] (a0,a1,a2,()))) (all_eq ji_makeOf_ok _)).trans (by kernel_rfl)
def Ei_onLine:Env:=mkEnv C tab_i_makeOf
 [0,1,2,3,6,7,8,9,10,11,13,17,20,23,24,27,28,32,35,36,39,40,44,48,49,52,53] 67
 (fun k =>
 bif k == 1 then some 118
 else
  bif k == 2 then some 118
  else
  bif k == 6 then some 58230
  else
   bif k == 7 then some 58230
   else bif k == 8 then some 58230 else bif k == 11 then some 58486 else bif k == 1000003 then some 57414 else none)
 (Hints.mk (fun d i=>bif d == 44 then bif i == 0 then some 57 else bif i == 1 then some 58 else none else none)
 (fun s=>Nat.testBit 1024 s) fun r=>bif r == 10 then [62] else [])
 [(ty98,Mode.ro),(ty3,Mode.ro)]
def Ki_onLine:=endK C [(ty98,Mode.ro),(ty3,Mode.ro)] [(ty78,2),(ty4,0)] [RV.tmp 4,RV.tmp 5]
def Li_onLine_3 (x1:Int) (x2:Rat×Int×Int) (x6:List Atm) (x13:List Int) (x14:Int) (x15:Int):Option ((List Atm×Bool×PUnit)×PUnit):=loopAt Ei_onLine [1,1,0,1,0] (Tryz.f44.body.getD .skip) Ki_onLine (V.dead::(V.d none 0 ty3 x1::V.box none 0 ty98 x2::dd 3 (V.d none (ty85.depth+1) (Ty.slice 85 ty85) x6::dd 6 (V.d none ((minO none (minO none none)).getD ty3.depth+1) (Ty.slice 3 ty3) x13::V.d none 0 (Ty.int IntKind.i64) x14::V.d none 0 (Ty.int IntKind.i64) x15::dd 51 ([])))))
def Si_onLine (a0:Rat×Int×Int) (a1:Int):Option ((List Atm×Bool×PUnit)×PUnit):=Fi_onLine.sem (a0,a1,())
def ji_onLine:List (Nat×List Nat):=[(1000003,[1,1,0,1,0])]
theorem ji_onLine_ok:okB ji_onLine (Tryz.f44.body.getD .skip) []=true:=by kernel_rfl
theorem Li_onLine_3_eq (x1:Int) (x2:Rat×Int×Int) (x6:List Atm) (x13:List Int) (x14:Int) (x15:Int):Li_onLine_3 x1 x2 x6 x13 x14 x15 =
 bif decide (x15 < x14) then
 (getI x13 x15).bind fun y =>
 (getI x13 x15).bind fun y =>
  (getI (List.replicate (Int.toNat 3) (0:Int)) 0).bind fun y_1 =>
  (getI (List.replicate (Int.toNat 3) (0:Int)) 0).bind fun y_2 =>
   (getI (List.replicate (Int.toNat 3) (0:Int)) 0).bind fun y_3 =>
   (some
     ((List.replicate (Int.toNat 3) (0:Int)).set (Int.toNat 0)
     (IntKind.i64.wrap (IntKind.i64.wrap (IntKind.i64.wrap (0 - y)*x2.fst.fst)*x2.snd.snd)))).bind
    fun y_4 =>
    (getI y_4 x1).bind fun y_5 =>
    (getI y_4 x1).bind fun y_6 =>
     (getI y_4 x1).bind fun y_7 =>
     (some (y_4.set x1.toNat (IntKind.i64.wrap (IntKind.i64.wrap (y*x2.fst.snd)*x2.snd.snd)))).bind fun y_8 =>
      (Si_makeOf y_8 (IntKind.i64.wrap (IntKind.i64.wrap (IntKind.i64.wrap (0 - y)*x2.snd.fst)*x2.fst.snd))
       false).bind
      fun y =>
      bif !y.fst.snd.fst then some (([],false,()),())
      else
       bif decide ((x6.length+1)*40≤140737488355328) then
       Li_onLine_3 x1 x2 (x6++[y.fst.fst]) x13 x14 (IntKind.i64.wrap (x15+1))
       else none
else some ((x6,true,()),()):=(turn_eq ji_onLine_ok [1,1,0,1,0] (by kernel_rfl) _).trans (by kernel_rfl)
theorem Si_onLine_eq (a0:Rat×Int×Int) (a1:Int):Si_onLine a0 a1 =
 Li_onLine_3 a1 a0 [] [1,-1] (↑2:Int) 0:=(Eq.trans (by kernel_rfl:Si_onLine a0 a1=denK Ei_onLine (Tryz.f44.body.getD .skip) Ki_onLine (slots0 67 [(ty98,Mode.ro),(ty3,Mode.ro)] (a0,a1,()))) (all_eq ji_onLine_ok _)).trans (by kernel_rfl)
def Ei_hasVariables:Env:=mkEnv C tab_i_onLine [0,1,3] 7 (fun x=>none)
 (Hints.mk (fun x x_1=>none) (fun s=>Nat.testBit 2 s) fun r=>bif r == 1 then [4] else []) [(ty85,Mode.ro)]
def Ki_hasVariables:=endK C [(ty85,Mode.ro)] [(ty4,0)] [RV.tmp 2]
def Si_hasVariables (a0:Atm):Option ((Bool×PUnit)×PUnit):=Fi_hasVariables.sem (a0,())
theorem Si_hasVariables_eq (a0:Atm):Si_hasVariables a0 =
 (Si_divisorOf a0.fst).bind fun y=>some ((y.fst.fst != 0,()),()):=by kernel_rfl
def Ei_emptyCell:Env:=mkEnv C tab_i_hasVariables [0,1,2] 9 (fun k=>bif k == 1 then some 5 else none)
 (Hints.mk (fun x x_1=>none) (fun s=>Nat.testBit 4 s) fun r=>bif r == 2 then [] else []) [(ty3,Mode.ro)]
def Ki_emptyCell:=endK C [(ty3,Mode.ro)] [(ty83,2)] [RV.cell 2 83]
def Si_emptyCell (a0:Int):Option ((Cel×PUnit)×PUnit):=Fi_emptyCell.sem (a0,())
theorem Si_emptyCell_eq (a0:Int):Si_emptyCell a0 =
 bif
 decide (0≤a0) && decide (a0≤a0) && decide (a0*(↑8:Int)≤140737488355328) &&
  decide (a0≤9223372036854775807) then
 some (((a0,[(List.replicate a0.toNat (0:Int),1,false)]),()),())
else none:=by kernel_rfl
def Ei_copyNumbers:Env:=mkEnv C tab_i_emptyCell [0,1] 6 (fun x=>none) (Hints.mk (fun x x_1=>none) (fun s=>Nat.testBit 0 s) fun x=>[])
 [(ty59,Mode.ro)]
def Ki_copyNumbers:=endK C [(ty59,Mode.ro)] [(ty59,1)] [RV.tmp 2]
def Si_copyNumbers (a0:List Int):Option ((List Int×PUnit)×PUnit):=Fi_copyNumbers.sem (a0,())
theorem Si_copyNumbers_eq (a0:List Int):Si_copyNumbers a0 =
 bif decide ((0+a0.length)*8≤140737488355328) then some ((a0,()),()) else none:=by kernel_rfl
def Ei_copyAtom:Env:=mkEnv C tab_i_copyNumbers [0,1,2,3,6,8] 11 (fun k=>bif k == 1 then some 6 else none)
 (Hints.mk (fun x x_1=>none) (fun s=>Nat.testBit 6 s) fun r=>bif r == 1 then [4] else bif r == 2 then [] else [])
 [(ty85,Mode.ro)]
def Ki_copyAtom:=endK C [(ty85,Mode.ro)] [(ty85,1)] [RV.cell 2 85]
def Si_copyAtom (a0:Atm):Option ((Atm×PUnit)×PUnit):=Fi_copyAtom.sem (a0,())
theorem Si_copyAtom_eq (a0:Atm):Si_copyAtom a0 =
 (Si_copyNumbers a0.fst).bind fun y=>some (((y.fst.fst,a0.snd.fst,a0.snd.snd),()),()):=by kernel_rfl
def Ei_directionDivisor:Env:=mkEnv C tab_i_copyAtom [0,1,3,4] 10 (fun x=>none)
 (Hints.mk (fun x x_1=>none) (fun s=>Nat.testBit 2 s) fun r=>bif r == 1 then [5] else []) [(ty85,Mode.ro)]
def Ki_directionDivisor:=endK C [(ty85,Mode.ro)] [(ty3,0)] [RV.tmp 2]
def Si_directionDivisor (a0:Atm):Option ((Int×PUnit)×PUnit):=Fi_directionDivisor.sem (a0,())
theorem Si_directionDivisor_eq (a0:Atm):Si_directionDivisor a0 =
 (Si_divisorOf a0.fst).bind fun y=>bif y.fst.fst == 0 then some ((1,()),()) else some ((y.fst.fst,()),()):=by kernel_rfl
def Ei_sign:Env:=mkEnv C tab_i_directionDivisor [0,1,2,3] 11 (fun x=>none)
 (Hints.mk (fun x x_1=>none) (fun s=>Nat.testBit 0 s) fun x=>[]) [(ty3,Mode.ro),(ty3,Mode.ro)]
def Ki_sign:=endK C [(ty3,Mode.ro),(ty3,Mode.ro)] [(ty3,0)] [RV.tmp 4]
def Si_sign (a0:Int) (a1:Int):Option ((Int×PUnit)×PUnit):=Fi_sign.sem (a0,a1,())
theorem Si_sign_eq (a0:Int) (a1:Int):Si_sign a0 a1 =
 bif decide (a0 < a1) then some ((-1,()),()) else bif decide (a0 > a1) then some ((1,()),()) else some ((0,()),()):=by kernel_rfl
def Ei_compareDirections:Env:=mkEnv C tab_i_sign [0,1,2,3,5,6,7,8,13,19,20,22,26,27,29] 38
 (fun k=>bif k == 2 then some 124 else bif k == 1000003 then some 98412 else none)
 (Hints.mk (fun x x_1=>none) (fun s=>Nat.testBit 12 s) fun r =>
 bif r == 2 then [9,14,20,22] else bif r == 3 then [11,27,29] else [])
 [(ty85,Mode.ro),(ty85,Mode.ro)]
def Ki_compareDirections:=endK C [(ty85,Mode.ro),(ty85,Mode.ro)] [(ty3,0)] [RV.tmp 4]
def Li_compareDirections_3 (x2:Atm) (x3:Atm) (x5:Int) (x6:Int) (x15:Int) (x16:Int):Option ((Int×PUnit)×PUnit):=loopAt Ei_compareDirections [1,1,0,1,0] (Tryz.f103.body.getD .skip) Ki_compareDirections (dd 2 (V.box none 0 ty85 x2::V.box none 0 ty85 x3::V.dead::(V.d none 0 ty3 x5::V.d none 0 ty3 x6::dd 8 (V.d none 0 (Ty.int IntKind.i64) x15::V.d none 0 (Ty.int IntKind.i64) x16::dd 21 ([])))))
def Si_compareDirections (a0:Atm) (a1:Atm):Option ((Int×PUnit)×PUnit):=Fi_compareDirections.sem (a0,a1,())
def ji_compareDirections:List (Nat×List Nat):=[(1000003,[1,1,0,1,0])]
theorem ji_compareDirections_ok:okB ji_compareDirections (Tryz.f103.body.getD .skip) []=true:=by kernel_rfl
theorem Li_compareDirections_3_eq (x2:Atm) (x3:Atm) (x5:Int) (x6:Int) (x15:Int) (x16:Int):Li_compareDirections_3 x2 x3 x5 x6 x15 x16 =
 bif decide (x16 < x15) then
 (getI x2.fst x16).bind fun y =>
 bif x5 != 0 then
  (getI x3.fst x16).bind fun y_1 =>
  bif x6 != 0 then
   (Si_sign (IntKind.i64.wrap (y.tdiv x5)) (IntKind.i64.wrap (y_1.tdiv x6))).bind fun y =>
   bif y.fst.fst != 0 then some ((y.fst.fst,()),())
   else Li_compareDirections_3 x2 x3 x5 x6 x15 (IntKind.i64.wrap (x16+1))
  else none
 else none
else some ((0,()),()):=(turn_eq ji_compareDirections_ok [1,1,0,1,0] (by kernel_rfl) _).trans (by kernel_rfl)
theorem Si_compareDirections_eq (a0:Atm) (a1:Atm):Si_compareDirections a0 a1 =
 (Si_directionDivisor a0).bind fun y =>
 (Si_directionDivisor a1).bind fun y_1 =>
 Li_compareDirections_3 a0 a1 y.fst.fst y_1.fst.fst (↑(List.length a0.fst):Int) 0:=(Eq.trans (by kernel_rfl:Si_compareDirections a0 a1=denK Ei_compareDirections (Tryz.f103.body.getD .skip) Ki_compareDirections (slots0 38 [(ty85,Mode.ro),(ty85,Mode.ro)] (a0,a1,()))) (all_eq ji_compareDirections_ok _)).trans (by kernel_rfl)
def Ei_CompareAtoms:Env:=mkEnv C tab_i_compareDirections [0,1,2,3,5,6,16,19,30,35,44,46,49] 51
 (fun k=>bif k == 1 then some 28 else none)
 (Hints.mk (fun x x_1=>none) (fun s=>Nat.testBit 12 s) fun r =>
 bif r == 2 then [7,17,24,37] else bif r == 3 then [11,20,25,32] else [])
 [(ty85,Mode.ro),(ty85,Mode.ro)]
def Ki_CompareAtoms:=endK C [(ty85,Mode.ro),(ty85,Mode.ro)] [(ty3,0)] [RV.tmp 4]
def Si_CompareAtoms (a0:Atm) (a1:Atm):Option ((Int×PUnit)×PUnit):=Fi_CompareAtoms.sem (a0,a1,())
theorem Si_CompareAtoms_eq (a0:Atm) (a1:Atm):Si_CompareAtoms a0 a1 =
 (Si_IsAtom a0).bind fun y =>
 bif !y.fst.fst then some ((2,()),())
 else
 (Si_IsAtom a1).bind fun y =>
  bif !y.fst.fst then some ((2,()),())
  else
  bif (↑(List.length a0.fst):Int) != (↑(List.length a1.fst):Int) then some ((2,()),())
  else
   (Si_compareDirections a0 a1).bind fun y =>
   bif y.fst.fst != 0 then some ((y.fst.fst,()),())
   else
    (Si_directionDivisor a1).bind fun y =>
    (Si_directionDivisor a0).bind fun y_1 =>
     (Si_sign (IntKind.i64.wrap (a0.snd.fst*y.fst.fst)) (IntKind.i64.wrap (a1.snd.fst*y_1.fst.fst))).bind
     fun y =>
     bif y.fst.fst != 0 then some ((y.fst.fst,()),())
     else
      bif a0.snd.snd == a1.snd.snd then some ((0,()),())
      else bif a0.snd.snd then some ((1,()),()) else some ((-1,()),()):=by kernel_rfl
def Sslices__SortFunc_loop_example_g03413_impl_Atom_loop_example_g03413_impl_Atom (x0:(List ((List Int)×(Int×Bool)))) (x1:Value):Option (Unit×(List ((List Int)×(Int×Bool)))×Unit):=Fslices__SortFunc_loop_example_g03413_impl_Atom_loop_example_g03413_impl_Atom.sem (x0,(x1,()))
def Ei_normalOf:Env:=mkEnv C tab_slices__SortFunc_loop_example_g03413_impl_Atom_loop_example_g03413_impl_Atom
 [0,1,2,3,4,5,6,7,8,9,10,12,16,21,25,29,46,51,60,63,68] 76
 (fun k =>
 bif k == 1 then some 19
 else
  bif k == 2 then some 51
  else
  bif k == 4 then some 28723
  else
   bif k == 7 then some 17
   else
   bif k == 8 then some 28851
   else
    bif k == 11 then some 49
    else
    bif k == 12 then some 304
    else
     bif k == 14 then some 492581209243952
     else
     bif k == 15 then some 492581209245488
     else
      bif k == 16 then some 492581209244976
      else
      bif k == 18 then some 272
      else bif k == 1000003 then some 28723 else bif k == 1000013 then some 492581209243952 else none)
 (Hints.mk (fun x x_1=>none)
 (fun s =>
  Nat.testBit
  49010464791116081896842261913156602376033299545456609477097497402813181549011534258639160322373409167629331578242006801964110016562329888330235596731856477055321010120126655283161807817355018340723905336487026622356960499370861893185141377587599199869307330523816198188445240072868699821055350035659933116715405149584
  s)
 fun r =>
 bif r == 4 then [] else bif r == 7 then [18,36] else bif r == 8 then [69,75] else bif r == 10 then [59,70] else [])
 [(ty3,Mode.ro),(ty78,Mode.ro)]
def Ki_normalOf:=endK C [(ty3,Mode.ro),(ty78,Mode.ro)] [(ty83,2)] [RV.cell 4 83]
def Li_normalOf_13 (x4:Int×List Atm) (x5:Int×List Atm) (x8:Int×List Atm) (x47:Int) (x48:Int):Option ((Cel×PUnit)×PUnit):=loopAt Ei_normalOf [1,1,1,1,1,0,1,0] (Tryz.f45.body.getD .skip) Ki_normalOf (dd 4 (V.box none ty83.depth ty83 x4::V.odd 0 1 ((Ty.int IntKind.i64).pair (Ty.slice 85 (ty59.pair (ty3.pair ty4)).agg)) x5::dd 2 (V.box none ty83.depth ty83 x8::dd 37 (V.same 5 (Ty.slice 85 (ty59.pair (ty3.pair ty4)).agg)::V.d none 0 (Ty.int IntKind.i64) x47::V.d none 0 (Ty.int IntKind.i64) x48::dd 27 ([])))))
def Li_normalOf_3 (x0:Int) (x1:List Atm) (x4:Int×List Atm) (x5:List Atm) (x12:List Atm) (x13:Int) (x14:Int):Option ((Cel×PUnit)×PUnit):=loopAt Ei_normalOf [1,1,0,1,0] (Tryz.f45.body.getD .skip) Ki_normalOf (V.d none 0 ty3 x0::V.d none 0 ty78 x1::dd 2 (V.box none ty83.depth ty83 x4::V.d none (ty85.depth+1) (Ty.slice 85 ty85) x5::dd 6 (V.d none 0 ty78 x12::V.d none 0 (Ty.int IntKind.i64) x13::V.d none 0 (Ty.int IntKind.i64) x14::dd 61 ([]))))
def Si_normalOf (a0:Int) (a1:List Atm):Option ((Cel×PUnit)×PUnit):=Fi_normalOf.sem (a0,a1,())
def ji_normalOf:List (Nat×List Nat):=[(1000003,[1,1,0,1,0]),(1000013,[1,1,1,1,1,0,1,0])]
theorem ji_normalOf_ok:okB ji_normalOf (Tryz.f45.body.getD .skip) []=true:=by kernel_rfl
theorem Li_normalOf_13_eq (x4:Int×List Atm) (x5:Int×List Atm) (x8:Int×List Atm) (x47:Int) (x48:Int):Li_normalOf_13 x4 x5 x8 x47 x48 =
 bif decide (x48 < x47) then
 (getI x5.snd x48).bind fun y =>
 bif V.dead.idle && decide (x5.fst≤x48) then
  (getI x5.snd x48).bind fun y =>
  bif decide (IntKind.i64.wrap (x48+1) < (↑(List.length x5.snd):Int)) then
   (getI x5.snd (IntKind.i64.wrap (x48+1))).bind fun y_1 =>
   bif decide (x48+1≤IntKind.i64.wrap (x48+1)) then
    (getI x5.snd (IntKind.i64.wrap (x48+1))).bind fun y_2 =>
    bif decide (x48+1≤IntKind.i64.wrap (x48+1)) then
     (getI x5.snd (IntKind.i64.wrap (x48+1))).bind fun y_3 =>
     (Si_compareDirections y y_3).bind fun y_4 =>
      bif y_4.fst.fst == 0 then Li_normalOf_13 x4 (x48+1,x5.snd) x8 x47 (IntKind.i64.wrap (x48+1))
      else
      bif decide ((List.length x8.snd+1)*40≤140737488355328) then
       Li_normalOf_13 x4 (x48+1,x5.snd) (x8.fst,x8.snd++[y]) x47 (IntKind.i64.wrap (x48+1))
      else none
    else none
   else none
  else
   bif decide ((List.length x8.snd+1)*40≤140737488355328) then
   Li_normalOf_13 x4 (x48+1,x5.snd) (x8.fst,x8.snd++[y]) x47 (IntKind.i64.wrap (x48+1))
   else none
 else none
else some ((x8,()),()):=(turn_eq ji_normalOf_ok [1,1,1,1,1,0,1,0] (by kernel_rfl) _).trans (by kernel_rfl)
theorem Li_normalOf_3_eq (x0:Int) (x1:List Atm) (x4:Int×List Atm) (x5:List Atm) (x12:List Atm) (x13:Int) (x14:Int):Li_normalOf_3 x0 x1 x4 x5 x12 x13 x14 =
 bif decide (x14 < x13) then
 (getI x12 x14).bind fun y =>
 (Si_hasVariables y).bind fun y_1 =>
  bif !y_1.fst.fst then
  bif decide (y.snd.fst > 0) then (Si_emptyCell x0).bind fun y=>some ((y.fst.fst,()),())
  else
   bif y.snd.fst == 0 then
   bif y.snd.snd then (Si_emptyCell x0).bind fun y=>some ((y.fst.fst,()),())
   else Li_normalOf_3 x0 x1 x4 x5 x12 x13 (IntKind.i64.wrap (x14+1))
   else Li_normalOf_3 x0 x1 x4 x5 x12 x13 (IntKind.i64.wrap (x14+1))
  else
  (Si_copyAtom y).bind fun y =>
   bif decide ((x5.length+1)*40≤140737488355328) then
   Li_normalOf_3 x0 x1 x4 (x5++[y.fst.fst]) x12 x13 (IntKind.i64.wrap (x14+1))
   else none
else
 Option.bind
 (Go.Proofs.YtkanidldnnfloaaGreat.P.It.Sslices__SortFunc_loop_example_g03413_impl_Atom_loop_example_g03413_impl_Atom x5
  (Value.func (Fn.func 102) #[] #[]))
 fun y=>Li_normalOf_13 x4 (0,y.snd.fst) (x0,[]) (↑(List.length y.snd.fst):Int) 0:=(turn_eq ji_normalOf_ok [1,1,0,1,0] (by kernel_rfl) _).trans (by kernel_rfl)
theorem Si_normalOf_eq (a0:Int) (a1:List Atm):Si_normalOf a0 a1 =
 Li_normalOf_3 a0 a1 (0,[]) [] a1 (↑a1.length:Int) 0:=(Eq.trans (by kernel_rfl:Si_normalOf a0 a1=denK Ei_normalOf (Tryz.f45.body.getD .skip) Ki_normalOf (slots0 76 [(ty3,Mode.ro),(ty78,Mode.ro)] (a0,a1,()))) (all_eq ji_normalOf_ok _)).trans (by kernel_rfl)
def Ei_TrackRegion:Env:=mkEnv C tab_i_normalOf [0,1,2,4,5,6,7,8,9,10,11,12,13,14,24,28,32,33,38,39,56] 65
 (fun k =>
 bif k == 3 then some 12
 else
  bif k == 4 then some 28
  else
  bif k == 5 then some 92
  else
   bif k == 7 then some 117440604
   else
   bif k == 12 then some 12
   else
    bif k == 13 then some 117446236
    else
    bif k == 14 then some 117441116
    else bif k == 16 then some 76 else bif k == 1000006 then some 117440596 else none)
 (Hints.mk
 (fun d i =>
  bif d == 14 then bif i == 0 then some 17 else bif i == 1 then some 18 else none
  else
  bif d == 32 then bif i == 0 then some 36 else bif i == 1 then some 37 else none
  else bif d == 38 then bif i == 0 then some 42 else bif i == 1 then some 43 else none else none)
 (fun s=>Nat.testBit 68 s) fun r=>bif r == 2 then [] else bif r == 6 then [57,64] else [])
 [(ty29,Mode.ro)]
def Ki_TrackRegion:=endK C [(ty29,Mode.ro)] [(ty26,3),(ty4,0)] [RV.cell 2 26,RV.tmp 3]
def Li_TrackRegion_6 (x2:Int×List Cel) (x4:List (Rat×Rat×(Rat×Int×Int)×Rat×Int×Int)) (x6:Int×List Cel) (x25:Int) (x26:Int):Option ((Reg×Bool×PUnit)×PUnit):=loopAt Ei_TrackRegion [1,1,1,1,0,1,0] (Tryz.f9.body.getD .skip) Ki_TrackRegion (dd 2 (V.box none ty26.depth ty26 x2::V.dead::(V.d none 1 ty94 x4::V.dead::(V.box none ty26.depth ty26 x6::dd 17 (V.view 4 [] ty94::V.d none 0 (Ty.int IntKind.i64) x25::V.d none 0 (Ty.int IntKind.i64) x26::dd 38 ([]))))))
def Si_TrackRegion (a0:List (Rat×Rat×Int×Int)):Option ((Reg×Bool×PUnit)×PUnit):=Fi_TrackRegion.sem (a0,())
def ji_TrackRegion:List (Nat×List Nat):=[(1000006,[1,1,1,1,0,1,0])]
theorem ji_TrackRegion_ok:okB ji_TrackRegion (Tryz.f9.body.getD .skip) []=true:=by kernel_rfl
theorem Li_TrackRegion_6_eq (x2:Int×List Cel) (x4:List (Rat×Rat×(Rat×Int×Int)×Rat×Int×Int)) (x6:Int×List Cel) (x25:Int) (x26:Int):Li_TrackRegion_6 x2 x4 x6 x25 x26 =
 bif decide (x26 < x25) then
 (getI x4 x26).bind fun y =>
 (getI x4 x26).bind fun y =>
  (Si_leg_during y 3).bind fun y_1 =>
  (Si_onLine y.snd.snd.fst 1).bind fun y_2 =>
   (Si_onLine y.snd.snd.snd 2).bind fun y =>
   bif !y_2.fst.snd.fst then some (((0,[]),false,()),())
   else
    bif !y.fst.snd.fst then some (((0,[]),false,()),())
    else
    bif decide ((List.length y_1.fst.fst+List.length y_2.fst.fst)*40≤140737488355328) then
     bif decide (((y_1.fst.fst++y_2.fst.fst).length+List.length y.fst.fst)*40≤140737488355328) then
     (Si_normalOf 3 (y_1.fst.fst++y_2.fst.fst++y.fst.fst)).bind fun y =>
      bif decide ((List.length x6.snd+1)*32≤140737488355328) then
      Li_TrackRegion_6 x2 x4 (x6.fst,x6.snd++[y.fst.fst]) x25 (IntKind.i64.wrap (x26+1))
      else none
     else none
    else none
else some ((x6,true,()),()):=(turn_eq ji_TrackRegion_ok [1,1,1,1,0,1,0] (by kernel_rfl) _).trans (by kernel_rfl)
theorem Si_TrackRegion_eq (a0:List (Rat×Rat×Int×Int)):Si_TrackRegion a0 =
 (Si_legsOf a0).bind fun y =>
 bif !y.fst.snd.fst then some (((0,[]),false,()),())
 else Li_TrackRegion_6 (0,[]) y.fst.fst (3,[]) (↑(List.length y.fst.fst):Int) 0:=(Eq.trans (by kernel_rfl:Si_TrackRegion a0=denK Ei_TrackRegion (Tryz.f9.body.getD .skip) Ki_TrackRegion (slots0 65 [(ty29,Mode.ro)] (a0,()))) (all_eq ji_TrackRegion_ok _)).trans (by kernel_rfl)
def Ew_eqIntS:Env:=mkEnv C tab_i_TrackRegion [0,1,2,3,5,17,19,21,23] 26 (fun k=>bif k == 1000004 then some 35 else none)
 (Hints.mk (fun x x_1=>none) (fun s=>Nat.testBit 0 s) fun x=>[]) [(ty59,Mode.ro),(ty59,Mode.ro)]
def Kw_eqIntS:=endK C [(ty59,Mode.ro),(ty59,Mode.ro)] [(ty4,0)] [RV.tmp 4]
def Lw_eqIntS_4 (x0:List Int) (x1:List Int) (x5:Int):Option ((Bool×PUnit)×PUnit):=loopAt Ew_eqIntS [1,1,0,1,0] (Tryz.f30.body.getD .skip) Kw_eqIntS (V.d none 0 ty59 x0::V.d none 0 ty59 x1::dd 3 (V.d none 0 (Ty.int IntKind.i64) x5::dd 20 ([])))
def Sw_eqIntS (a0:List Int) (a1:List Int):Option ((Bool×PUnit)×PUnit):=Fw_eqIntS.sem (a0,a1,())
def jw_eqIntS:List (Nat×List Nat):=[(1000004,[1,1,0,1,0])]
theorem jw_eqIntS_ok:okB jw_eqIntS (Tryz.f30.body.getD .skip) []=true:=by kernel_rfl
theorem Lw_eqIntS_4_eq (x0:List Int) (x1:List Int) (x5:Int):Lw_eqIntS_4 x0 x1 x5 =
 bif decide (x5 < (↑x0.length:Int)) then
 (getI x0 x5).bind fun y =>
 (getI x1 x5).bind fun y_1 =>
  bif y != y_1 then some ((false,()),()) else Lw_eqIntS_4 x0 x1 (IntKind.i64.wrap (x5+1))
else some ((true,()),()):=(turn_eq jw_eqIntS_ok [1,1,0,1,0] (by kernel_rfl) _).trans (by kernel_rfl)
theorem Sw_eqIntS_eq (a0:List Int) (a1:List Int):Sw_eqIntS a0 a1 =
 bif (↑a0.length:Int) != (↑a1.length:Int) then some ((false,()),()) else Lw_eqIntS_4 a0 a1 0:=(Eq.trans (by kernel_rfl:Sw_eqIntS a0 a1=denK Ew_eqIntS (Tryz.f30.body.getD .skip) Kw_eqIntS (slots0 26 [(ty59,Mode.ro),(ty59,Mode.ro)] (a0,a1,()))) (all_eq jw_eqIntS_ok _)).trans (by kernel_rfl)
def Ew_eqAtom:Env:=mkEnv C tab_w_eqIntS [0,1,2,3,5,7,11,13,16,18] 21 (fun x=>none)
 (Hints.mk (fun x x_1=>none) (fun s=>Nat.testBit 12 s) fun r =>
 bif r == 2 then [6] else bif r == 3 then [8] else [])
 [(ty85,Mode.ro),(ty85,Mode.ro)]
def Kw_eqAtom:=endK C [(ty85,Mode.ro),(ty85,Mode.ro)] [(ty4,0)] [RV.tmp 4]
def Sw_eqAtom (a0:Atm) (a1:Atm):Option ((Bool×PUnit)×PUnit):=Fw_eqAtom.sem (a0,a1,())
theorem Sw_eqAtom_eq (a0:Atm) (a1:Atm):Sw_eqAtom a0 a1 =
 (Sw_eqIntS a0.fst a1.fst).bind fun y =>
 bif !y.fst.fst then some ((false,()),())
 else
 bif a0.snd.fst != a1.snd.fst then some ((false,()),())
 else bif !a0.snd.snd == a1.snd.snd then some ((false,()),()) else some ((true,()),()):=by kernel_rfl
def Ew_eqAtomS:Env:=mkEnv C tab_w_eqAtom [0,1,2,3,5,17,19,21,23] 27 (fun k=>bif k == 1000004 then some 35 else none)
 (Hints.mk (fun x x_1=>none) (fun s=>Nat.testBit 0 s) fun x=>[]) [(ty78,Mode.ro),(ty78,Mode.ro)]
def Kw_eqAtomS:=endK C [(ty78,Mode.ro),(ty78,Mode.ro)] [(ty4,0)] [RV.tmp 4]
def Lw_eqAtomS_4 (x0:List Atm) (x1:List Atm) (x5:Int):Option ((Bool×PUnit)×PUnit):=loopAt Ew_eqAtomS [1,1,0,1,0] (Tryz.f145.body.getD .skip) Kw_eqAtomS (V.d none 0 ty78 x0::V.d none 0 ty78 x1::dd 3 (V.d none 0 (Ty.int IntKind.i64) x5::dd 21 ([])))
def Sw_eqAtomS (a0:List Atm) (a1:List Atm):Option ((Bool×PUnit)×PUnit):=Fw_eqAtomS.sem (a0,a1,())
def jw_eqAtomS:List (Nat×List Nat):=[(1000004,[1,1,0,1,0])]
theorem jw_eqAtomS_ok:okB jw_eqAtomS (Tryz.f145.body.getD .skip) []=true:=by kernel_rfl
theorem Lw_eqAtomS_4_eq (x0:List Atm) (x1:List Atm) (x5:Int):Lw_eqAtomS_4 x0 x1 x5 =
 bif decide (x5 < (↑x0.length:Int)) then
 (getI x0 x5).bind fun y =>
 (getI x1 x5).bind fun y_1 =>
  (Sw_eqAtom y y_1).bind fun y =>
  bif !y.fst.fst then some ((false,()),()) else Lw_eqAtomS_4 x0 x1 (IntKind.i64.wrap (x5+1))
else some ((true,()),()):=(turn_eq jw_eqAtomS_ok [1,1,0,1,0] (by kernel_rfl) _).trans (by kernel_rfl)
theorem Sw_eqAtomS_eq (a0:List Atm) (a1:List Atm):Sw_eqAtomS a0 a1 =
 bif (↑a0.length:Int) != (↑a1.length:Int) then some ((false,()),()) else Lw_eqAtomS_4 a0 a1 0:=(Eq.trans (by kernel_rfl:Sw_eqAtomS a0 a1=denK Ew_eqAtomS (Tryz.f145.body.getD .skip) Kw_eqAtomS (slots0 27 [(ty78,Mode.ro),(ty78,Mode.ro)] (a0,a1,()))) (all_eq jw_eqAtomS_ok _)).trans (by kernel_rfl)
def Ew_eqCell:Env:=mkEnv C tab_w_eqAtomS [0,1,2,3,5,7,10,12] 16 (fun x=>none)
 (Hints.mk (fun x x_1=>none) (fun s=>Nat.testBit 12 s) fun r =>
 bif r == 2 then [11] else bif r == 3 then [13] else [])
 [(ty83,Mode.ro),(ty83,Mode.ro)]
def Kw_eqCell:=endK C [(ty83,Mode.ro),(ty83,Mode.ro)] [(ty4,0)] [RV.tmp 4]
def Sw_eqCell (a0:Int×List Atm) (a1:Int×List Atm):Option ((Bool×PUnit)×PUnit):=Fw_eqCell.sem (a0,a1,())
theorem Sw_eqCell_eq (a0:Int×List Atm) (a1:Int×List Atm):Sw_eqCell a0 a1 =
 bif a0.fst != a1.fst then some ((false,()),())
else (Sw_eqAtomS a0.snd a1.snd).bind fun y=>bif !y.fst.fst then some ((false,()),()) else some ((true,()),()):=by kernel_rfl
def Ew_eqCellS:Env:=mkEnv C tab_w_eqCell [0,1,2,3,5,17,19,21,23] 27 (fun k=>bif k == 1000004 then some 35 else none)
 (Hints.mk (fun x x_1=>none) (fun s=>Nat.testBit 0 s) fun x=>[]) [(ty24,Mode.ro),(ty24,Mode.ro)]
def Kw_eqCellS:=endK C [(ty24,Mode.ro),(ty24,Mode.ro)] [(ty4,0)] [RV.tmp 4]
def Lw_eqCellS_4 (x0:List Cel) (x1:List Cel) (x5:Int):Option ((Bool×PUnit)×PUnit):=loopAt Ew_eqCellS [1,1,0,1,0] (Tryz.f46.body.getD .skip) Kw_eqCellS (V.d none 0 ty24 x0::V.d none 0 ty24 x1::dd 3 (V.d none 0 (Ty.int IntKind.i64) x5::dd 21 ([])))
def Sw_eqCellS (a0:List Cel) (a1:List Cel):Option ((Bool×PUnit)×PUnit):=Fw_eqCellS.sem (a0,a1,())
def jw_eqCellS:List (Nat×List Nat):=[(1000004,[1,1,0,1,0])]
theorem jw_eqCellS_ok:okB jw_eqCellS (Tryz.f46.body.getD .skip) []=true:=by kernel_rfl
theorem Lw_eqCellS_4_eq (x0:List Cel) (x1:List Cel) (x5:Int):Lw_eqCellS_4 x0 x1 x5 =
 bif decide (x5 < (↑x0.length:Int)) then
 (getI x0 x5).bind fun y =>
 (getI x1 x5).bind fun y_1 =>
  (Sw_eqCell y y_1).bind fun y =>
  bif !y.fst.fst then some ((false,()),()) else Lw_eqCellS_4 x0 x1 (IntKind.i64.wrap (x5+1))
else some ((true,()),()):=(turn_eq jw_eqCellS_ok [1,1,0,1,0] (by kernel_rfl) _).trans (by kernel_rfl)
theorem Sw_eqCellS_eq (a0:List Cel) (a1:List Cel):Sw_eqCellS a0 a1 =
 bif (↑a0.length:Int) != (↑a1.length:Int) then some ((false,()),()) else Lw_eqCellS_4 a0 a1 0:=(Eq.trans (by kernel_rfl:Sw_eqCellS a0 a1=denK Ew_eqCellS (Tryz.f46.body.getD .skip) Kw_eqCellS (slots0 27 [(ty24,Mode.ro),(ty24,Mode.ro)] (a0,a1,()))) (all_eq jw_eqCellS_ok _)).trans (by kernel_rfl)
def Ew_eqRegion:Env:=mkEnv C tab_w_eqCellS [0,1,2,3,5,7,10,12] 16 (fun x=>none)
 (Hints.mk (fun x x_1=>none) (fun s=>Nat.testBit 12 s) fun r =>
 bif r == 2 then [11] else bif r == 3 then [13] else [])
 [(ty26,Mode.ro),(ty26,Mode.ro)]
def Kw_eqRegion:=endK C [(ty26,Mode.ro),(ty26,Mode.ro)] [(ty4,0)] [RV.tmp 4]
def Sw_eqRegion (a0:Int×List Cel) (a1:Int×List Cel):Option ((Bool×PUnit)×PUnit):=Fw_eqRegion.sem (a0,a1,())
theorem Sw_eqRegion_eq (a0:Int×List Cel) (a1:Int×List Cel):Sw_eqRegion a0 a1 =
 bif a0.fst != a1.fst then some ((false,()),())
else (Sw_eqCellS a0.snd a1.snd).bind fun y=>bif !y.fst.fst then some ((false,()),()) else some ((true,()),()):=by kernel_rfl
def Ew_eqRatio:Env:=mkEnv C tab_w_eqRegion [0,1,2,3,5,7,10,12] 15 (fun x=>none)
 (Hints.mk (fun x x_1=>none) (fun s=>Nat.testBit 0 s) fun x=>[]) [(ty73,Mode.ro),(ty73,Mode.ro)]
def Kw_eqRatio:=endK C [(ty73,Mode.ro),(ty73,Mode.ro)] [(ty4,0)] [RV.tmp 4]
def Sw_eqRatio (a0:Rat) (a1:Rat):Option ((Bool×PUnit)×PUnit):=Fw_eqRatio.sem (a0,a1,())
theorem Sw_eqRatio_eq (a0:Rat) (a1:Rat):Sw_eqRatio a0 a1 =
 bif a0.fst != a1.fst then some ((false,()),())
else bif a0.snd != a1.snd then some ((false,()),()) else some ((true,()),()):=by kernel_rfl
def Ew_eqStop:Env:=mkEnv C tab_w_eqRatio [0,1,2,3,5,7,11,13,17,19] 23 (fun x=>none)
 (Hints.mk (fun x x_1=>none) (fun s=>Nat.testBit 0 s) fun x=>[]) [(ty81,Mode.ro),(ty81,Mode.ro)]
def Kw_eqStop:=endK C [(ty81,Mode.ro),(ty81,Mode.ro)] [(ty4,0)] [RV.tmp 4]
def Sw_eqStop (a0:Rat×Rat×Int×Int) (a1:Rat×Rat×Int×Int):Option ((Bool×PUnit)×PUnit):=Fw_eqStop.sem (a0,a1,())
theorem Sw_eqStop_eq (a0:Rat×Rat×Int×Int) (a1:Rat×Rat×Int×Int):Sw_eqStop a0 a1 =
 (Sw_eqRatio a0.fst a1.fst).bind fun y =>
 bif !y.fst.fst then some ((false,()),())
 else
 (Sw_eqRatio a0.snd.fst a1.snd.fst).bind fun y =>
  bif !y.fst.fst then some ((false,()),())
  else
  (Sw_eqRatio a0.snd.snd a1.snd.snd).bind fun y =>
   bif !y.fst.fst then some ((false,()),()) else some ((true,()),()):=by kernel_rfl
def Ew_eqStopS:Env:=mkEnv C tab_w_eqStop [0,1,2,3,5,17,19,21,23] 27 (fun k=>bif k == 1000004 then some 35 else none)
 (Hints.mk (fun x x_1=>none) (fun s=>Nat.testBit 0 s) fun x=>[]) [(ty29,Mode.ro),(ty29,Mode.ro)]
def Kw_eqStopS:=endK C [(ty29,Mode.ro),(ty29,Mode.ro)] [(ty4,0)] [RV.tmp 4]
def Lw_eqStopS_4 (x0:List (Rat×Rat×Int×Int)) (x1:List (Rat×Rat×Int×Int)) (x5:Int):Option ((Bool×PUnit)×PUnit):=loopAt Ew_eqStopS [1,1,0,1,0] (Tryz.f11.body.getD .skip) Kw_eqStopS (V.d none 0 ty29 x0::V.d none 0 ty29 x1::dd 3 (V.d none 0 (Ty.int IntKind.i64) x5::dd 21 ([])))
def Sw_eqStopS (a0:List (Rat×Rat×Int×Int)) (a1:List (Rat×Rat×Int×Int)):Option ((Bool×PUnit)×PUnit):=Fw_eqStopS.sem (a0,a1,())
def jw_eqStopS:List (Nat×List Nat):=[(1000004,[1,1,0,1,0])]
theorem jw_eqStopS_ok:okB jw_eqStopS (Tryz.f11.body.getD .skip) []=true:=by kernel_rfl
theorem Lw_eqStopS_4_eq (x0:List (Rat×Rat×Int×Int)) (x1:List (Rat×Rat×Int×Int)) (x5:Int):Lw_eqStopS_4 x0 x1 x5 =
 bif decide (x5 < (↑x0.length:Int)) then
 (getI x0 x5).bind fun y =>
 (getI x1 x5).bind fun y_1 =>
  (Sw_eqStop y y_1).bind fun y =>
  bif !y.fst.fst then some ((false,()),()) else Lw_eqStopS_4 x0 x1 (IntKind.i64.wrap (x5+1))
else some ((true,()),()):=(turn_eq jw_eqStopS_ok [1,1,0,1,0] (by kernel_rfl) _).trans (by kernel_rfl)
theorem Sw_eqStopS_eq (a0:List (Rat×Rat×Int×Int)) (a1:List (Rat×Rat×Int×Int)):Sw_eqStopS a0 a1 =
 bif (↑a0.length:Int) != (↑a1.length:Int) then some ((false,()),()) else Lw_eqStopS_4 a0 a1 0:=(Eq.trans (by kernel_rfl:Sw_eqStopS a0 a1=denK Ew_eqStopS (Tryz.f11.body.getD .skip) Kw_eqStopS (slots0 27 [(ty29,Mode.ro),(ty29,Mode.ro)] (a0,a1,()))) (all_eq jw_eqStopS_ok _)).trans (by kernel_rfl)
def Ew_markStopS:Env:=mkEnv C tab_w_eqStopS [0,1,2,3,5,12,15,16,20,23,24,28,31,32,36,39,40,44,47,48,52,55,56] 61
 (fun k=>bif k == 1000002 then some 35 else none)
 (Hints.mk (fun x x_1=>none) (fun s=>Nat.testBit 0 s) fun x=>[]) [(ty29,Mode.mut 1),(ty3,Mode.ro)]
def Kw_markStopS:=endK C [(ty29,Mode.mut 1),(ty3,Mode.ro)] [(ty3,0)] [RV.tmp 4]
def Lw_markStopS_2 (x0:List (Rat×Rat×Int×Int)) (x1:Int) (x5:Int):Option ((Int×PUnit)×List (Rat×Rat×Int×Int)×PUnit):=loopAt Ew_markStopS [1,0,1,0] (Tryz.f12.body.getD .skip) Kw_markStopS (V.d none 1 ty29 x0::V.d none 0 ty3 x1::dd 3 (V.d none 0 (Ty.int IntKind.i64) x5::dd 55 ([])))
def Sw_markStopS (a0:List (Rat×Rat×Int×Int)) (a1:Int):Option ((Int×PUnit)×List (Rat×Rat×Int×Int)×PUnit):=Fw_markStopS.sem (a0,a1,())
def jw_markStopS:List (Nat×List Nat):=[(1000002,[1,0,1,0])]
theorem jw_markStopS_ok:okB jw_markStopS (Tryz.f12.body.getD .skip) []=true:=by kernel_rfl
theorem Lw_markStopS_2_eq (x0:List (Rat×Rat×Int×Int)) (x1:Int) (x5:Int):Lw_markStopS_2 x0 x1 x5 =
 bif decide (x5 < (↑x0.length:Int)) then
 (getI x0 x5).bind fun y =>
 (getI x0 x5).bind fun y =>
  (getI x0 x5).bind fun y =>
  (some (x0.set x5.toNat ((x1,y.fst.snd),y.snd))).bind fun y =>
   (getI y x5).bind fun y_1 =>
   (getI y x5).bind fun y_2 =>
    (getI y x5).bind fun y_3 =>
    (some (y.set x5.toNat ((y_3.fst.fst,IntKind.i64.wrap (x1+1)),y_3.snd))).bind fun y =>
     (getI y x5).bind fun y_4 =>
     (getI y x5).bind fun y_5 =>
      (getI y x5).bind fun y_6 =>
      (some
        (y.set x5.toNat
        (y_6.fst,(IntKind.i64.wrap (IntKind.i64.wrap (x1+1)+1),y_6.snd.fst.snd),y_6.snd.snd))).bind
       fun y =>
       (getI y x5).bind fun y_7 =>
       (getI y x5).bind fun y_8 =>
        (getI y x5).bind fun y_9 =>
        (some
          (y.set x5.toNat
          (y_9.fst,
           (y_9.snd.fst.fst,IntKind.i64.wrap (IntKind.i64.wrap (IntKind.i64.wrap (x1+1)+1)+1)),
           y_9.snd.snd))).bind
         fun y =>
         (getI y x5).bind fun y_10 =>
         (getI y x5).bind fun y_11 =>
          (getI y x5).bind fun y_12 =>
          (some
            (y.set x5.toNat
            (y_12.fst,y_12.snd.fst,
             IntKind.i64.wrap (IntKind.i64.wrap (IntKind.i64.wrap (IntKind.i64.wrap (x1+1)+1)+1)+1),
             y_12.snd.snd.snd))).bind
           fun y =>
           (getI y x5).bind fun y_13 =>
           (getI y x5).bind fun y_14 =>
            (getI y x5).bind fun y_15 =>
            (some
              (y.set x5.toNat
              (y_15.fst,y_15.snd.fst,y_15.snd.snd.fst,
               IntKind.i64.wrap
               (IntKind.i64.wrap
                (IntKind.i64.wrap (IntKind.i64.wrap (IntKind.i64.wrap (x1+1)+1)+1)+1) +
                1)))).bind
             fun y =>
             Lw_markStopS_2 y
             (IntKind.i64.wrap
              (IntKind.i64.wrap
               (IntKind.i64.wrap
                (IntKind.i64.wrap (IntKind.i64.wrap (IntKind.i64.wrap (x1+1)+1)+1)+1) +
               1) +
              1))
             (IntKind.i64.wrap (x5+1))
else some ((x1,()),x0,()):=(turn_eq jw_markStopS_ok [1,0,1,0] (by kernel_rfl) _).trans (by kernel_rfl)
theorem Sw_markStopS_eq (a0:List (Rat×Rat×Int×Int)) (a1:Int):Sw_markStopS a0 a1 =
 Lw_markStopS_2 a0 a1 0:=(Eq.trans (by kernel_rfl:Sw_markStopS a0 a1=denK Ew_markStopS (Tryz.f12.body.getD .skip) Kw_markStopS (slots0 61 [(ty29,Mode.mut 1),(ty3,Mode.ro)] (a0,a1,()))) (all_eq jw_markStopS_ok _)).trans (by kernel_rfl)
def Ew_markIntS:Env:=mkEnv C tab_w_markStopS [0,1,2,3,5,12] 19 (fun k=>bif k == 1000002 then some 35 else none)
 (Hints.mk (fun x x_1=>none) (fun s=>Nat.testBit 0 s) fun x=>[]) [(ty59,Mode.mut 1),(ty3,Mode.ro)]
def Kw_markIntS:=endK C [(ty59,Mode.mut 1),(ty3,Mode.ro)] [(ty3,0)] [RV.tmp 4]
def Lw_markIntS_2 (x0:List Int) (x1:Int) (x5:Int):Option ((Int×PUnit)×List Int×PUnit):=loopAt Ew_markIntS [1,0,1,0] (Tryz.f33.body.getD .skip) Kw_markIntS (V.d none 1 ty59 x0::V.d none 0 ty3 x1::dd 3 (V.d none 0 (Ty.int IntKind.i64) x5::dd 13 ([])))
def Sw_markIntS (a0:List Int) (a1:Int):Option ((Int×PUnit)×List Int×PUnit):=Fw_markIntS.sem (a0,a1,())
def jw_markIntS:List (Nat×List Nat):=[(1000002,[1,0,1,0])]
theorem jw_markIntS_ok:okB jw_markIntS (Tryz.f33.body.getD .skip) []=true:=by kernel_rfl
theorem Lw_markIntS_2_eq (x0:List Int) (x1:Int) (x5:Int):Lw_markIntS_2 x0 x1 x5 =
 bif decide (x5 < (↑x0.length:Int)) then
 (getI x0 x5).bind fun y =>
 (getI x0 x5).bind fun y =>
  (getI x0 x5).bind fun y =>
  (some (x0.set x5.toNat x1)).bind fun y=>Lw_markIntS_2 y (IntKind.i64.wrap (x1+1)) (IntKind.i64.wrap (x5+1))
else some ((x1,()),x0,()):=(turn_eq jw_markIntS_ok [1,0,1,0] (by kernel_rfl) _).trans (by kernel_rfl)
theorem Sw_markIntS_eq (a0:List Int) (a1:Int):Sw_markIntS a0 a1 =
 Lw_markIntS_2 a0 a1 0:=(Eq.trans (by kernel_rfl:Sw_markIntS a0 a1=denK Ew_markIntS (Tryz.f33.body.getD .skip) Kw_markIntS (slots0 19 [(ty59,Mode.mut 1),(ty3,Mode.ro)] (a0,a1,()))) (all_eq jw_markIntS_ok _)).trans (by kernel_rfl)
def Ew_markAtomS:Env:=mkEnv C tab_w_markIntS [0,1,2,3,5,12,14,15,19,22,26,31] 36 (fun k=>bif k == 1000002 then some 35 else none)
 (Hints.mk (fun x x_1=>none) (fun s=>Nat.testBit 0 s) fun x=>[]) [(ty78,Mode.mut 2),(ty3,Mode.ro)]
def Kw_markAtomS:=endK C [(ty78,Mode.mut 2),(ty3,Mode.ro)] [(ty3,0)] [RV.tmp 4]
def Lw_markAtomS_2 (x0:List Atm) (x1:Int) (x5:Int):Option ((Int×PUnit)×List Atm×PUnit):=loopAt Ew_markAtomS [1,0,1,0] (Tryz.f105.body.getD .skip) Kw_markAtomS (V.d none 2 ty78 x0::V.d none 0 ty3 x1::dd 3 (V.d none 0 (Ty.int IntKind.i64) x5::dd 30 ([])))
def Sw_markAtomS (a0:List Atm) (a1:Int):Option ((Int×PUnit)×List Atm×PUnit):=Fw_markAtomS.sem (a0,a1,())
def jw_markAtomS:List (Nat×List Nat):=[(1000002,[1,0,1,0])]
theorem jw_markAtomS_ok:okB jw_markAtomS (Tryz.f105.body.getD .skip) []=true:=by kernel_rfl
theorem Lw_markAtomS_2_eq (x0:List Atm) (x1:Int) (x5:Int):Lw_markAtomS_2 x0 x1 x5 =
 bif decide (x5 < (↑x0.length:Int)) then
 (getI x0 x5).bind fun y =>
 (getI x0 x5).bind fun y =>
  (getI x0 x5).bind fun y =>
  (Sw_markIntS y.fst x1).bind fun y =>
   (getI x0 x5).bind fun y_1 =>
   (some (x0.set x5.toNat (y.snd.fst,y_1.snd))).bind fun y_2 =>
    (getI y_2 x5).bind fun y_3 =>
    (getI y_2 x5).bind fun y_4 =>
     (getI y_2 x5).bind fun y_5 =>
     (some (y_2.set x5.toNat (y_5.fst,y.fst.fst,y_5.snd.snd))).bind fun y_6 =>
      (getI y_6 x5).bind fun y_7 =>
      (getI y_6 x5).bind fun y_8 =>
       (getI y_6 x5).bind fun y_9 =>
       (some (y_6.set x5.toNat (y_9.fst,y_9.snd.fst,(IntKind.i64.wrap (y.fst.fst+1)).tmod 3 == 0))).bind
        fun y_10 =>
        Lw_markAtomS_2 y_10 (IntKind.i64.wrap (IntKind.i64.wrap (y.fst.fst+1)+1)) (IntKind.i64.wrap (x5+1))
else some ((x1,()),x0,()):=(turn_eq jw_markAtomS_ok [1,0,1,0] (by kernel_rfl) _).trans (by kernel_rfl)
theorem Sw_markAtomS_eq (a0:List Atm) (a1:Int):Sw_markAtomS a0 a1 =
 Lw_markAtomS_2 a0 a1 0:=(Eq.trans (by kernel_rfl:Sw_markAtomS a0 a1=denK Ew_markAtomS (Tryz.f105.body.getD .skip) Kw_markAtomS (slots0 36 [(ty78,Mode.mut 2),(ty3,Mode.ro)] (a0,a1,()))) (all_eq jw_markAtomS_ok _)).trans (by kernel_rfl)
def Ew_markCellS:Env:=mkEnv C tab_w_markAtomS [0,1,2,3,5,12,15,19,21,22] 27 (fun k=>bif k == 1000002 then some 35 else none)
 (Hints.mk (fun x x_1=>none) (fun s=>Nat.testBit 0 s) fun x=>[]) [(ty24,Mode.mut 3),(ty3,Mode.ro)]
def Kw_markCellS:=endK C [(ty24,Mode.mut 3),(ty3,Mode.ro)] [(ty3,0)] [RV.tmp 4]
def Lw_markCellS_2 (x0:List Cel) (x1:Int) (x5:Int):Option ((Int×PUnit)×List Cel×PUnit):=loopAt Ew_markCellS [1,0,1,0] (Tryz.f48.body.getD .skip) Kw_markCellS (V.d none 3 ty24 x0::V.d none 0 ty3 x1::dd 3 (V.d none 0 (Ty.int IntKind.i64) x5::dd 21 ([])))
def Sw_markCellS (a0:List Cel) (a1:Int):Option ((Int×PUnit)×List Cel×PUnit):=Fw_markCellS.sem (a0,a1,())
def jw_markCellS:List (Nat×List Nat):=[(1000002,[1,0,1,0])]
theorem jw_markCellS_ok:okB jw_markCellS (Tryz.f48.body.getD .skip) []=true:=by kernel_rfl
theorem Lw_markCellS_2_eq (x0:List Cel) (x1:Int) (x5:Int):Lw_markCellS_2 x0 x1 x5 =
 bif decide (x5 < (↑x0.length:Int)) then
 (getI x0 x5).bind fun y =>
 (getI x0 x5).bind fun y =>
  (getI x0 x5).bind fun y =>
  (some (x0.set x5.toNat (x1,y.snd))).bind fun y =>
   (getI y x5).bind fun y_1 =>
   (getI y x5).bind fun y_2 =>
    (getI y x5).bind fun y_3 =>
    (Sw_markAtomS y_3.snd (IntKind.i64.wrap (x1+1))).bind fun y_4 =>
     (getI y x5).bind fun y_5 =>
     (some (y.set x5.toNat (y_5.fst,y_4.snd.fst))).bind fun y =>
      Lw_markCellS_2 y y_4.fst.fst (IntKind.i64.wrap (x5+1))
else some ((x1,()),x0,()):=(turn_eq jw_markCellS_ok [1,0,1,0] (by kernel_rfl) _).trans (by kernel_rfl)
theorem Sw_markCellS_eq (a0:List Cel) (a1:Int):Sw_markCellS a0 a1 =
 Lw_markCellS_2 a0 a1 0:=(Eq.trans (by kernel_rfl:Sw_markCellS a0 a1=denK Ew_markCellS (Tryz.f48.body.getD .skip) Kw_markCellS (slots0 27 [(ty24,Mode.mut 3),(ty3,Mode.ro)] (a0,a1,()))) (all_eq jw_markCellS_ok _)).trans (by kernel_rfl)
def Ew_markRegion:Env:=mkEnv C tab_w_markCellS [0,1,2,3,5] 10 (fun x=>none)
 (Hints.mk (fun x x_1=>none) (fun s=>Nat.testBit 4 s) fun r=>bif r == 2 then [6] else [])
 [(ty26,Mode.mut 3),(ty3,Mode.ro)]
def Kw_markRegion:=endK C [(ty26,Mode.mut 3),(ty3,Mode.ro)] [(ty3,0)] [RV.tmp 4]
def Sw_markRegion (a0:Int×List Cel) (a1:Int):Option ((Int×PUnit)×Reg×PUnit):=Fw_markRegion.sem (a0,a1,())
theorem Sw_markRegion_eq (a0:Int×List Cel) (a1:Int):Sw_markRegion a0 a1 =
 (Sw_markCellS a0.snd a1).bind fun y=>some ((y.fst.fst,()),(a0.fst,y.snd.fst),()):=by kernel_rfl
def Ew_heldIntS:Env:=mkEnv C tab_w_markRegion [0,1,2,3,5,12,14] 21 (fun k=>bif k == 1000002 then some 35 else none)
 (Hints.mk (fun x x_1=>none) (fun s=>Nat.testBit 0 s) fun x=>[]) [(ty59,Mode.ro),(ty3,Mode.ro)]
def Kw_heldIntS:=endK C [(ty59,Mode.ro),(ty3,Mode.ro)] [(ty3,0)] [RV.tmp 4]
def Lw_heldIntS_2 (x0:List Int) (x1:Int) (x5:Int):Option ((Int×PUnit)×PUnit):=loopAt Ew_heldIntS [1,0,1,0] (Tryz.f34.body.getD .skip) Kw_heldIntS (V.d none 0 ty59 x0::V.d none 0 ty3 x1::dd 3 (V.d none 0 (Ty.int IntKind.i64) x5::dd 15 ([])))
def Sw_heldIntS (a0:List Int) (a1:Int):Option ((Int×PUnit)×PUnit):=Fw_heldIntS.sem (a0,a1,())
def jw_heldIntS:List (Nat×List Nat):=[(1000002,[1,0,1,0])]
theorem jw_heldIntS_ok:okB jw_heldIntS (Tryz.f34.body.getD .skip) []=true:=by kernel_rfl
theorem Lw_heldIntS_2_eq (x0:List Int) (x1:Int) (x5:Int):Lw_heldIntS_2 x0 x1 x5 =
 bif decide (x5 < (↑x0.length:Int)) then
 (getI x0 x5).bind fun y =>
 bif y != x1 then some ((-1,()),()) else Lw_heldIntS_2 x0 (IntKind.i64.wrap (x1+1)) (IntKind.i64.wrap (x5+1))
else some ((x1,()),()):=(turn_eq jw_heldIntS_ok [1,0,1,0] (by kernel_rfl) _).trans (by kernel_rfl)
theorem Sw_heldIntS_eq (a0:List Int) (a1:Int):Sw_heldIntS a0 a1 =
 Lw_heldIntS_2 a0 a1 0:=(Eq.trans (by kernel_rfl:Sw_heldIntS a0 a1=denK Ew_heldIntS (Tryz.f34.body.getD .skip) Kw_heldIntS (slots0 21 [(ty59,Mode.ro),(ty3,Mode.ro)] (a0,a1,()))) (all_eq jw_heldIntS_ok _)).trans (by kernel_rfl)
def Ew_heldAtomS:Env:=mkEnv C tab_w_heldIntS [0,1,2,3,5,12,14,15,21,23,24,30,32,33] 42
 (fun k=>bif k == 1000002 then some 35 else none)
 (Hints.mk (fun x x_1=>none) (fun s=>Nat.testBit 0 s) fun x=>[]) [(ty78,Mode.ro),(ty3,Mode.ro)]
def Kw_heldAtomS:=endK C [(ty78,Mode.ro),(ty3,Mode.ro)] [(ty3,0)] [RV.tmp 4]
def Lw_heldAtomS_2 (x0:List Atm) (x1:Int) (x5:Int):Option ((Int×PUnit)×PUnit):=loopAt Ew_heldAtomS [1,0,1,0] (Tryz.f106.body.getD .skip) Kw_heldAtomS (V.d none 0 ty78 x0::V.d none 0 ty3 x1::dd 3 (V.d none 0 (Ty.int IntKind.i64) x5::dd 36 ([])))
def Sw_heldAtomS (a0:List Atm) (a1:Int):Option ((Int×PUnit)×PUnit):=Fw_heldAtomS.sem (a0,a1,())
def jw_heldAtomS:List (Nat×List Nat):=[(1000002,[1,0,1,0])]
theorem jw_heldAtomS_ok:okB jw_heldAtomS (Tryz.f106.body.getD .skip) []=true:=by kernel_rfl
theorem Lw_heldAtomS_2_eq (x0:List Atm) (x1:Int) (x5:Int):Lw_heldAtomS_2 x0 x1 x5 =
 bif decide (x5 < (↑x0.length:Int)) then
 (getI x0 x5).bind fun y =>
 (Sw_heldIntS y.fst x1).bind fun y =>
  bif decide (y.fst.fst < 0) then some ((-1,()),())
  else
  (getI x0 x5).bind fun y_1 =>
   bif y_1.snd.fst != y.fst.fst then some ((-1,()),())
   else
   (getI x0 x5).bind fun y_2 =>
    bif !y_2.snd.snd == ((IntKind.i64.wrap (y.fst.fst+1)).tmod 3 == 0) then some ((-1,()),())
    else Lw_heldAtomS_2 x0 (IntKind.i64.wrap (IntKind.i64.wrap (y.fst.fst+1)+1)) (IntKind.i64.wrap (x5+1))
else some ((x1,()),()):=(turn_eq jw_heldAtomS_ok [1,0,1,0] (by kernel_rfl) _).trans (by kernel_rfl)
theorem Sw_heldAtomS_eq (a0:List Atm) (a1:Int):Sw_heldAtomS a0 a1 =
 Lw_heldAtomS_2 a0 a1 0:=(Eq.trans (by kernel_rfl:Sw_heldAtomS a0 a1=denK Ew_heldAtomS (Tryz.f106.body.getD .skip) Kw_heldAtomS (slots0 42 [(ty78,Mode.ro),(ty3,Mode.ro)] (a0,a1,()))) (all_eq jw_heldAtomS_ok _)).trans (by kernel_rfl)
def Ew_heldCellS:Env:=mkEnv C tab_w_heldAtomS [0,1,2,3,5,12,14,15,21,23,24] 31 (fun k=>bif k == 1000002 then some 35 else none)
 (Hints.mk (fun x x_1=>none) (fun s=>Nat.testBit 0 s) fun x=>[]) [(ty24,Mode.ro),(ty3,Mode.ro)]
def Kw_heldCellS:=endK C [(ty24,Mode.ro),(ty3,Mode.ro)] [(ty3,0)] [RV.tmp 4]
def Lw_heldCellS_2 (x0:List Cel) (x1:Int) (x5:Int):Option ((Int×PUnit)×PUnit):=loopAt Ew_heldCellS [1,0,1,0] (Tryz.f49.body.getD .skip) Kw_heldCellS (V.d none 0 ty24 x0::V.d none 0 ty3 x1::dd 3 (V.d none 0 (Ty.int IntKind.i64) x5::dd 25 ([])))
def Sw_heldCellS (a0:List Cel) (a1:Int):Option ((Int×PUnit)×PUnit):=Fw_heldCellS.sem (a0,a1,())
def jw_heldCellS:List (Nat×List Nat):=[(1000002,[1,0,1,0])]
theorem jw_heldCellS_ok:okB jw_heldCellS (Tryz.f49.body.getD .skip) []=true:=by kernel_rfl
theorem Lw_heldCellS_2_eq (x0:List Cel) (x1:Int) (x5:Int):Lw_heldCellS_2 x0 x1 x5 =
 bif decide (x5 < (↑x0.length:Int)) then
 (getI x0 x5).bind fun y =>
 bif y.fst != x1 then some ((-1,()),())
 else
  (getI x0 x5).bind fun y =>
  (Sw_heldAtomS y.snd (IntKind.i64.wrap (x1+1))).bind fun y =>
   bif decide (y.fst.fst < 0) then some ((-1,()),()) else Lw_heldCellS_2 x0 y.fst.fst (IntKind.i64.wrap (x5+1))
else some ((x1,()),()):=(turn_eq jw_heldCellS_ok [1,0,1,0] (by kernel_rfl) _).trans (by kernel_rfl)
theorem Sw_heldCellS_eq (a0:List Cel) (a1:Int):Sw_heldCellS a0 a1 =
 Lw_heldCellS_2 a0 a1 0:=(Eq.trans (by kernel_rfl:Sw_heldCellS a0 a1=denK Ew_heldCellS (Tryz.f49.body.getD .skip) Kw_heldCellS (slots0 31 [(ty24,Mode.ro),(ty3,Mode.ro)] (a0,a1,()))) (all_eq jw_heldCellS_ok _)).trans (by kernel_rfl)
def Ew_heldRegion:Env:=mkEnv C tab_w_heldCellS [0,1,2,3,5] 12 (fun x=>none)
 (Hints.mk (fun x x_1=>none) (fun s=>Nat.testBit 4 s) fun r=>bif r == 2 then [6] else [])
 [(ty26,Mode.ro),(ty3,Mode.ro)]
def Kw_heldRegion:=endK C [(ty26,Mode.ro),(ty3,Mode.ro)] [(ty3,0)] [RV.tmp 4]
def Sw_heldRegion (a0:Int×List Cel) (a1:Int):Option ((Int×PUnit)×PUnit):=Fw_heldRegion.sem (a0,a1,())
theorem Sw_heldRegion_eq (a0:Int×List Cel) (a1:Int):Sw_heldRegion a0 a1 =
 (Sw_heldCellS a0.snd a1).bind fun y =>
 bif decide (y.fst.fst < 0) then some ((-1,()),()) else some ((y.fst.fst,()),()):=by kernel_rfl
def Ew_FnExactTrackRegion:Env:=mkEnv C tab_w_heldRegion [0,1,3,4,5,6,7,8,9,10,11,12,13,19,27,73] 96
 (fun k=>bif k == 5 then some 5 else bif k == 7 then some 117 else bif k == 24 then some 1205 else none)
 (Hints.mk
 (fun d i =>
  bif d == 19 then bif i == 0 then some 23 else bif i == 1 then some 24 else none
  else
  bif d == 27 then bif i == 0 then some 30 else bif i == 1 then some 31 else none
  else bif d == 73 then bif i == 0 then some 77 else bif i == 1 then some 78 else none else none)
 (fun s=>Nat.testBit 4240 s) fun r =>
 bif r == 4 then [33,53,80] else bif r == 7 then [32,52,62,65,88] else bif r == 12 then [79] else [])
 [(ty22,Mode.ro)]
def Kw_FnExactTrackRegion:=endK C [(ty22,Mode.ro)] [(ty4,0)] [RV.tmp 2]
def Sw_FnExactTrackRegion (a0:List (Rat×Rat×Int×Int)):Option ((Bool×PUnit)×PUnit):=Fw_FnExactTrackRegion.sem (a0,())
theorem Sw_FnExactTrackRegion_eq (a0:List (Rat×Rat×Int×Int)):Sw_FnExactTrackRegion a0 =
 (Sw_szStopS a0 1048576).bind fun y =>
 bif decide (y.fst.fst < 0) then some ((true,()),())
 else
 (Sw_toStopS a0).bind fun y =>
  (Ss_TrackRegion y.fst.fst).bind fun y =>
  (Sw_toStopS a0).bind fun y_1 =>
   (Si_TrackRegion y_1.fst.fst).bind fun y_2 =>
   (Sw_eqRegion y_2.fst.fst y.fst.fst).bind fun y_3 =>
    bif !y_3.fst.fst then some ((false,()),())
    else
    bif !y_2.fst.snd.fst == y.fst.snd.fst then some ((false,()),())
    else
     (Sw_toStopS a0).bind fun y_4 =>
     (Sw_eqStopS y_1.fst.fst y_4.fst.fst).bind fun y_5 =>
      bif !y_5.fst.fst then some ((false,()),())
      else
      (Sw_markStopS y_1.fst.fst 1).bind fun y_6 =>
       bif decide (y_6.fst.fst < 0) then some ((false,()),())
       else
       (Sw_eqRegion y_2.fst.fst y.fst.fst).bind fun y_7 =>
        bif !y_7.fst.fst then some ((false,()),())
        else
        bif !y_2.fst.snd.fst == y.fst.snd.fst then some ((false,()),())
        else
         (Sw_markRegion y_2.fst.fst 1).bind fun y_8 =>
         (Sw_heldRegion y_8.snd.fst 1).bind fun y_9 =>
          bif decide (y_9.fst.fst < 0) then some ((false,()),())
          else
          bif y_9.fst.fst != y_8.fst.fst then some ((false,()),())
          else
           (Sw_toStopS a0).bind fun y_10 =>
           (Si_TrackRegion y_10.fst.fst).bind fun y_11 =>
            (Sw_eqRegion y_11.fst.fst y.fst.fst).bind fun y_12 =>
            bif !y_12.fst.fst then some ((false,()),())
            else
             bif !y_11.fst.snd.fst == y.fst.snd.fst then some ((false,()),())
             else
             (Sw_heldRegion y_8.snd.fst 1).bind fun y =>
              bif decide (y.fst.fst < 0) then some ((false,()),())
              else bif y.fst.fst != y_8.fst.fst then some ((false,()),()) else some ((true,()),()):=by kernel_rfl
end
end Go.Proofs.YtkanidldnnfloaaGreat.P.It
