/- A part of the proof: It3c. No conditions. -/
import Derived.Test.YtkanidldnnfloaaPIt2c
import Derived.Test.YtkanidldnnfloaaPG7
import Derived.Test.YtkanidldnnfloaaChecked
import Derived.KernelRfl
set_option linter.unusedVariables false
set_option maxRecDepth 100000
namespace Go.Proofs.Ytkanidldnnfloaa.P.It
open Am
noncomputable def Ew_big : Env := mkEnv C tab0 [0, 1] 6 (fun x => none) (Hints.mk (fun x x_1 => none) (fun s => Nat.testBit 0 s) fun x => [])
 [(ty22, Mode.ro)]
noncomputable def Kw_big := endK C [(ty22, Mode.ro)] [(ty4, 0)] [RV.tmp 2]
noncomputable def Sw_big (a0 : List Int) : Option ((Bool × PUnit) × PUnit) := Fw_big.sem (a0, ())
theorem Sw_big_eq (a0 : List Int) : Sw_big a0 =
  some ((decide ((↑a0.length : Int) > 1048576), ()), ()) := by kernel_rfl
noncomputable def Es_l1New : Env := mkEnv C tab_w_big [0, 1, 2, 3, 4, 20, 22, 31] 32
 (fun k =>
  bif k == 1 then some 5
  else bif k == 3 then some 29 else bif k == 6 then some 13 else bif k == 1000003 then some 25 else none)
 (Hints.mk (fun x x_1 => none) (fun s => Nat.testBit 2147483648 s) fun r => bif r == 31 then [] else [])
 [(ty22, Mode.ro)]
noncomputable def Ks_l1New := endK C [(ty22, Mode.ro)] [(ty67, 1000)] [RV.tmp 2]
noncomputable def Ls_l1New_3 (x0 : List Int) (x3 : Int) (x4 : Int) : Option (((List Int × Int × Int) × PUnit) × PUnit) := loopAt Es_l1New [1, 1, 0, 1, 0] (Try.f19.body.getD .skip) Ks_l1New [V.d none 0 ty22 x0, V.dead, V.dead, V.d none 0 (Ty.int IntKind.i64) x3, V.d none 0 (Ty.int IntKind.i64) x4, V.dead,
 V.dead, V.dead, V.dead, V.dead, V.dead, V.dead, V.dead, V.dead, V.dead, V.dead, V.dead, V.dead, V.dead, V.dead, V.dead,
 V.dead, V.dead, V.dead, V.dead, V.dead, V.dead, V.dead, V.dead, V.dead, V.dead, V.dead]
noncomputable def Ss_l1New (a0 : List Int) : Option (((List Int × Int × Int) × PUnit) × PUnit) := Fs_l1New.sem (a0, ())
def js_l1New : List (Nat × List Nat) := [(1000003, [1, 1, 0, 1, 0])]
theorem js_l1New_ok : okB js_l1New (Try.f19.body.getD .skip) [] = true := by kernel_rfl
theorem Ls_l1New_3_eq (x0 : List Int) (x3 : Int) (x4 : Int) : Ls_l1New_3 x0 x3 x4 =
  bif decide (x4 < (↑x0.length : Int)) then
 bif decide (x4 < 4000) then
  (getI x0 x4).bind fun y =>
   Ls_l1New_3 x0
    (IntKind.i64.wrap
     (↑(BitVec.ofInt IntKind.i64.bits
          (IntKind.i64.wrap (IntKind.i64.wrap (IntKind.i64.wrap (x3 * 131) + IntKind.i64.wrap y) + 7)) &&&
         BitVec.ofInt IntKind.i64.bits 1073741823).toNat :
      Int))
    (IntKind.i64.wrap (x4 + 1))
 else some (((x0, 0, x3), ()), ())
else some (((x0, 0, x3), ()), ()) := (turn_eq js_l1New_ok [1, 1, 0, 1, 0] (by kernel_rfl) _).trans (by kernel_rfl)
theorem Ss_l1New_eq (a0 : List Int) : Ss_l1New a0 =
  Ls_l1New_3 a0 (IntKind.i64.wrap (10101 + (↑a0.length : Int))) 0 := (Eq.trans (by kernel_rfl : Ss_l1New a0 = denK Es_l1New (Try.f19.body.getD .skip) Ks_l1New (slots0 32 [(ty22, Mode.ro)] (a0, ()))) (all_eq js_l1New_ok _)).trans (by kernel_rfl)
noncomputable def Es_l1Byte : Env := mkEnv C tab_s_l1New [0, 1, 3, 6, 7, 11, 14, 15, 19, 20, 26, 27, 30, 31, 37, 38, 39, 41, 42, 44, 51, 52, 55] 58
 (fun k => bif k == 1 then some 5 else bif k == 3 then some 13 else bif k == 5 then some 13 else none)
 (Hints.mk (fun x x_1 => none) (fun s => Nat.testBit 1 s) fun r => bif r == 0 then [32, 39, 44] else [])
 [(ty67, Mode.ptr 0)]
noncomputable def Ks_l1Byte := endK C [(ty67, Mode.ptr 0)] [(ty3, 0)] [RV.tmp 2]
noncomputable def Ss_l1Byte (a0 : List Int × Int × Int) : Option ((Int × PUnit) × (List Int × Int × Int) × PUnit) := Fs_l1Byte.sem (a0, ())
theorem Ss_l1Byte_eq (a0 : List Int × Int × Int) : Ss_l1Byte a0 =
  bif decide (a0.snd.fst < (↑(List.length a0.fst) : Int)) then
 (getI a0.fst a0.snd.fst).bind fun y =>
  some
   ((IntKind.i64.wrap
      (↑(BitVec.ofInt IntKind.i64.bits
           (IntKind.i64.wrap
            (IntKind.i64.wrap
              (↑(BitVec.ofInt IntKind.i64.bits
                   (IntKind.i64.wrap
                    (↑(BitVec.ofInt IntKind.i64.bits
                         ((IntKind.i64.wrap
                            (IntKind.i64.wrap (a0.snd.snd * 6364136223846793005) + 1442695040888963407)).fdiv
                          (2 ^ min (Int.toNat 33) IntKind.i64.bits)) ^^^
                        BitVec.ofInt IntKind.i64.bits
                         ((IntKind.i64.wrap
                            (IntKind.i64.wrap (a0.snd.snd * 6364136223846793005) + 1442695040888963407)).fdiv
                          (2 ^ min (Int.toNat 45) IntKind.i64.bits))).toNat :
                     Int)) &&&
                  BitVec.ofInt IntKind.i64.bits 255).toNat :
               Int) +
             IntKind.i64.wrap y)) &&&
          BitVec.ofInt IntKind.i64.bits 255).toNat :
       Int),
     ()),
    (a0.fst, IntKind.i64.wrap (a0.snd.fst + 1),
     IntKind.i64.wrap (IntKind.i64.wrap (a0.snd.snd * 6364136223846793005) + 1442695040888963407)),
    ())
else
 some
  ((IntKind.i64.wrap
     (↑(BitVec.ofInt IntKind.i64.bits
          (IntKind.i64.wrap
           (↑(BitVec.ofInt IntKind.i64.bits
                ((IntKind.i64.wrap (IntKind.i64.wrap (a0.snd.snd * 6364136223846793005) + 1442695040888963407)).fdiv
                 (2 ^ min (Int.toNat 33) IntKind.i64.bits)) ^^^
               BitVec.ofInt IntKind.i64.bits
                ((IntKind.i64.wrap (IntKind.i64.wrap (a0.snd.snd * 6364136223846793005) + 1442695040888963407)).fdiv
                 (2 ^ min (Int.toNat 45) IntKind.i64.bits))).toNat :
            Int)) &&&
         BitVec.ofInt IntKind.i64.bits 255).toNat :
      Int),
    ()),
   (a0.fst, a0.snd.fst, IntKind.i64.wrap (IntKind.i64.wrap (a0.snd.snd * 6364136223846793005) + 1442695040888963407)),
   ()) := by kernel_rfl
noncomputable def Es_l1Below : Env := mkEnv C tab_s_l1Byte [0, 1, 2, 3, 5, 6, 7, 8] 37 (fun x => none)
 (Hints.mk (fun x x_1 => none) (fun s => Nat.testBit 1 s) fun r => bif r == 0 then [] else [])
 [(ty67, Mode.ptr 0), (ty3, Mode.ro)]
noncomputable def Ks_l1Below := endK C [(ty67, Mode.ptr 0), (ty3, Mode.ro)] [(ty3, 0)] [RV.tmp 4]
noncomputable def Ss_l1Below (a0 : List Int × Int × Int) (a1 : Int) : Option ((Int × PUnit) × (List Int × Int × Int) × PUnit) := Fs_l1Below.sem (a0, a1, ())
theorem Ss_l1Below_eq (a0 : List Int × Int × Int) (a1 : Int) : Ss_l1Below a0 a1 =
  bif decide (a1 ≤ 0) then some ((0, ()), a0, ())
else
 bif decide (a1 ≤ 256) then
  (Ss_l1Byte a0).bind fun y => bif a1 != 0 then some ((Int.tmod y.fst.fst a1, ()), y.snd.fst, ()) else none
 else
  (Ss_l1Byte a0).bind fun y =>
   (Ss_l1Byte y.snd.fst).bind fun y_1 =>
    (Ss_l1Byte y_1.snd.fst).bind fun y_2 =>
     (Ss_l1Byte y_2.snd.fst).bind fun y_3 =>
      bif a1 != 0 then
       some
        (((IntKind.i64.wrap
             (IntKind.i64.wrap
               (IntKind.i64.wrap (IntKind.i64.wrap (y.fst.fst * 16777216) + IntKind.i64.wrap (y_1.fst.fst * 65536)) +
                IntKind.i64.wrap (y_2.fst.fst * 256)) +
              y_3.fst.fst)).tmod
           a1,
          ()),
         y_3.snd.fst, ())
      else none := by kernel_rfl
noncomputable def Es_l1In : Env := mkEnv C tab_s_l1Below [0, 1, 2, 3, 4, 5] 15 (fun x => none)
 (Hints.mk (fun x x_1 => none) (fun s => Nat.testBit 0 s) fun x => []) [(ty3, Mode.ro), (ty3, Mode.ro), (ty3, Mode.ro)]
noncomputable def Ks_l1In := endK C [(ty3, Mode.ro), (ty3, Mode.ro), (ty3, Mode.ro)] [(ty4, 0)] [RV.tmp 6]
noncomputable def Ss_l1In (a0 : Int) (a1 : Int) (a2 : Int) : Option ((Bool × PUnit) × PUnit) := Fs_l1In.sem (a0, a1, a2, ())
theorem Ss_l1In_eq (a0 : Int) (a1 : Int) (a2 : Int) : Ss_l1In a0 a1 a2 =
  bif decide (a0 ≥ a1) then some ((decide (a0 ≤ a2), ()), ()) else some ((false, ()), ()) := by kernel_rfl
noncomputable def Es_IsNumber : Env := mkEnv C tab_s_l1In [0, 1] 5 (fun x => none) (Hints.mk (fun x x_1 => none) (fun s => Nat.testBit 0 s) fun x => [])
 [(ty3, Mode.ro)]
noncomputable def Ks_IsNumber := endK C [(ty3, Mode.ro)] [(ty4, 0)] [RV.tmp 2]
noncomputable def Ss_IsNumber (a0 : Int) : Option ((Bool × PUnit) × PUnit) := Fs_IsNumber.sem (a0, ())
theorem Ss_IsNumber_eq (a0 : Int) : Ss_IsNumber a0 =
  (Ss_l1In a0 (-400000000) 400000000).bind fun y => some ((y.fst.fst, ()), ()) := by kernel_rfl
noncomputable def Es_l1Abs : Env := mkEnv C tab_s_IsNumber [0, 1] 7 (fun x => none) (Hints.mk (fun x x_1 => none) (fun s => Nat.testBit 0 s) fun x => [])
 [(ty3, Mode.ro)]
noncomputable def Ks_l1Abs := endK C [(ty3, Mode.ro)] [(ty3, 0)] [RV.tmp 2]
noncomputable def Ss_l1Abs (a0 : Int) : Option ((Int × PUnit) × PUnit) := Fs_l1Abs.sem (a0, ())
theorem Ss_l1Abs_eq (a0 : Int) : Ss_l1Abs a0 =
  some
 ((bif true then if a0 < IntKind.i64.wrap (0 - a0) then IntKind.i64.wrap (0 - a0) else a0
   else if IntKind.i64.wrap (0 - a0) < a0 then IntKind.i64.wrap (0 - a0) else a0,
   ()),
  ()) := by kernel_rfl
noncomputable def Es_GcdOf : Env := mkEnv C tab_s_l1Abs [0, 1, 2, 3] 21 (fun k => bif k == 1000003 then some 3 else none)
 (Hints.mk (fun x x_1 => none) (fun s => Nat.testBit 0 s) fun x => []) [(ty3, Mode.ro), (ty3, Mode.ro)]
noncomputable def Ks_GcdOf := endK C [(ty3, Mode.ro), (ty3, Mode.ro)] [(ty3, 0)] [RV.tmp 4]
noncomputable def Ls_GcdOf_3 (x0 : Int) (x1 : Int) : Option ((Int × PUnit) × PUnit) := loopAt Es_GcdOf [1, 1, 0, 0] (Try.f49.body.getD .skip) Ks_GcdOf [V.d none 0 ty3 x0, V.d none 0 ty3 x1, V.dead, V.dead, V.dead, V.dead, V.dead, V.dead, V.dead, V.dead, V.dead, V.dead,
 V.dead, V.dead, V.dead, V.dead, V.dead, V.dead, V.dead, V.dead, V.dead]
noncomputable def Ss_GcdOf (a0 : Int) (a1 : Int) : Option ((Int × PUnit) × PUnit) := Fs_GcdOf.sem (a0, a1, ())
def js_GcdOf : List (Nat × List Nat) := [(1000003, [1, 1, 0, 0])]
theorem js_GcdOf_ok : okB js_GcdOf (Try.f49.body.getD .skip) [] = true := by kernel_rfl
theorem Ls_GcdOf_3_eq (x0 : Int) (x1 : Int) : Ls_GcdOf_3 x0 x1 =
  bif x1 != 0 then bif x1 != 0 then Ls_GcdOf_3 x1 (x0.tmod x1) else none
else (Ss_l1Abs x0).bind fun y => some ((y.fst.fst, ()), ()) := (turn_eq js_GcdOf_ok [1, 1, 0, 0] (by kernel_rfl) _).trans (by kernel_rfl)
theorem Ss_GcdOf_eq (a0 : Int) (a1 : Int) : Ss_GcdOf a0 a1 =
  (Ss_IsNumber a0).bind fun y =>
 bif !y.fst.fst then some ((0, ()), ())
 else (Ss_IsNumber a1).bind fun y => bif !y.fst.fst then some ((0, ()), ()) else Ls_GcdOf_3 a0 a1 := (Eq.trans (by kernel_rfl : Ss_GcdOf a0 a1 = denK Es_GcdOf (Try.f49.body.getD .skip) Ks_GcdOf (slots0 21 [(ty3, Mode.ro), (ty3, Mode.ro)] (a0, a1, ()))) (all_eq js_GcdOf_ok _)).trans (by kernel_rfl)
noncomputable def Es_IsRatio : Env := mkEnv C tab_s_GcdOf [0, 1, 3, 7, 12, 14] 19 (fun x => none)
 (Hints.mk (fun x x_1 => none) (fun s => Nat.testBit 0 s) fun x => []) [(ty26, Mode.ro)]
noncomputable def Ks_IsRatio := endK C [(ty26, Mode.ro)] [(ty4, 0)] [RV.tmp 2]
noncomputable def Ss_IsRatio (a0 : Rat) : Option ((Bool × PUnit) × PUnit) := Fs_IsRatio.sem (a0, ())
theorem Ss_IsRatio_eq (a0 : Rat) : Ss_IsRatio a0 =
  (Ss_l1In a0.snd 1 400000000).bind fun y =>
 bif y.fst.fst then
  (Ss_IsNumber a0.fst).bind fun y =>
   bif y.fst.fst then (Ss_GcdOf a0.fst a0.snd).bind fun y => some ((y.fst.fst == 1, ()), ()) else some ((false, ()), ())
 else some ((false, ()), ()) := by kernel_rfl
noncomputable def Es_l2Make : Env := mkEnv C tab_s_IsRatio [0, 1, 2, 3, 4, 5, 6, 7, 8] 40 (fun k => bif k == 1000007 then some 115 else none)
 (Hints.mk (fun x x_1 => none) (fun s => Nat.testBit 0 s) fun x => []) [(ty3, Mode.ro), (ty3, Mode.ro)]
noncomputable def Ks_l2Make := endK C [(ty3, Mode.ro), (ty3, Mode.ro)] [(ty26, 0)] [RV.cell 4 26]
noncomputable def Ls_l2Make_7 (x0 : Int) (x1 : Int) (x4 : Rat) (x5 : Int) (x6 : Int) : Option ((Rat × PUnit) × PUnit) := loopAt Es_l2Make [1, 1, 1, 1, 1, 0, 0] (Try.f32.body.getD .skip) Ks_l2Make [V.d none 0 (Ty.int IntKind.i64) x0, V.d none 0 (Ty.int IntKind.i64) x1, V.dead, V.dead, V.box none ty26.depth ty26 x4,
 V.d none 0 (Ty.int IntKind.i64) x5, V.d none 0 (Ty.int IntKind.i64) x6, V.dead, V.dead, V.dead, V.dead, V.dead, V.dead,
 V.dead, V.dead, V.dead, V.dead, V.dead, V.dead, V.dead, V.dead, V.dead, V.dead, V.dead, V.dead, V.dead, V.dead, V.dead,
 V.dead, V.dead, V.dead, V.dead, V.dead, V.dead, V.dead, V.dead, V.dead, V.dead, V.dead, V.dead]
noncomputable def Ss_l2Make (a0 : Int) (a1 : Int) : Option ((Rat × PUnit) × PUnit) := Fs_l2Make.sem (a0, a1, ())
def js_l2Make : List (Nat × List Nat) := [(1000007, [1, 1, 1, 1, 1, 0, 0])]
theorem js_l2Make_ok : okB js_l2Make (Try.f32.body.getD .skip) [] = true := by kernel_rfl
theorem Ls_l2Make_7_eq (x0 : Int) (x1 : Int) (x4 : Rat) (x5 : Int) (x6 : Int) : Ls_l2Make_7 x0 x1 x4 x5 x6 =
  bif x6 != 0 then bif x6 != 0 then Ls_l2Make_7 x0 x1 x4 x6 (x5.tmod x6) else none
else
 (Ss_l1Abs x5).bind fun y =>
  bif y.fst.fst != 0 then
   bif y.fst.fst != 0 then
    (Ss_IsRatio (IntKind.i64.wrap (x0.tdiv y.fst.fst), IntKind.i64.wrap (x1.tdiv y.fst.fst))).bind fun y_1 =>
     bif !y_1.fst.fst then some (((0, 0), ()), ())
     else some (((IntKind.i64.wrap (x0.tdiv y.fst.fst), IntKind.i64.wrap (x1.tdiv y.fst.fst)), ()), ())
   else none
  else none := (turn_eq js_l2Make_ok [1, 1, 1, 1, 1, 0, 0] (by kernel_rfl) _).trans (by kernel_rfl)
theorem Ss_l2Make_eq (a0 : Int) (a1 : Int) : Ss_l2Make a0 a1 =
  bif a1 == 0 then some (((0, 0), ()), ())
else
 bif decide (a1 < 0) then
  Ls_l2Make_7 (IntKind.i64.wrap (0 - a0)) (IntKind.i64.wrap (0 - a1)) (0, 0) (IntKind.i64.wrap (0 - a0))
   (IntKind.i64.wrap (0 - a1))
 else Ls_l2Make_7 a0 a1 (0, 0) a0 a1 := (Eq.trans (by kernel_rfl : Ss_l2Make a0 a1 = denK Es_l2Make (Try.f32.body.getD .skip) Ks_l2Make (slots0 40 [(ty3, Mode.ro), (ty3, Mode.ro)] (a0, a1, ()))) (all_eq js_l2Make_ok _)).trans (by kernel_rfl)
noncomputable def Es_MakeRatio : Env := mkEnv C tab_s_l2Make [0, 1, 2, 3, 4] 17 (fun x => none)
 (Hints.mk (fun x x_1 => none) (fun s => Nat.testBit 0 s) fun x => []) [(ty3, Mode.ro), (ty3, Mode.ro)]
noncomputable def Ks_MakeRatio := endK C [(ty3, Mode.ro), (ty3, Mode.ro)] [(ty26, 0)] [RV.cell 4 26]
noncomputable def Ss_MakeRatio (a0 : Int) (a1 : Int) : Option ((Rat × PUnit) × PUnit) := Fs_MakeRatio.sem (a0, a1, ())
theorem Ss_MakeRatio_eq (a0 : Int) (a1 : Int) : Ss_MakeRatio a0 a1 =
  (Ss_IsNumber a0).bind fun y =>
 bif !y.fst.fst then some (((0, 0), ()), ())
 else
  (Ss_IsNumber a1).bind fun y =>
   bif !y.fst.fst then some (((0, 0), ()), ()) else (Ss_l2Make a0 a1).bind fun y => some ((y.fst.fst, ()), ()) := by kernel_rfl
noncomputable def Es_l1Whole : Env := mkEnv C tab_s_MakeRatio [0, 1, 2] 5 (fun x => none)
 (Hints.mk (fun x x_1 => none) (fun s => Nat.testBit 0 s) fun x => []) [(ty3, Mode.ro)]
noncomputable def Ks_l1Whole := endK C [(ty3, Mode.ro)] [(ty26, 0)] [RV.cell 2 26]
noncomputable def Ss_l1Whole (a0 : Int) : Option ((Rat × PUnit) × PUnit) := Fs_l1Whole.sem (a0, ())
theorem Ss_l1Whole_eq (a0 : Int) : Ss_l1Whole a0 =
  some (((a0, 1), ()), ()) := by kernel_rfl
noncomputable def Es_l1Once : Env := mkEnv C tab_s_l1Whole [0, 1, 2, 3] 9 (fun x => none)
 (Hints.mk (fun x x_1 => none) (fun s => Nat.testBit 1 s) fun r => bif r == 0 then [] else [])
 [(ty67, Mode.ptr 0), (ty3, Mode.ro)]
noncomputable def Ks_l1Once := endK C [(ty67, Mode.ptr 0), (ty3, Mode.ro)] [(ty4, 0)] [RV.tmp 4]
noncomputable def Ss_l1Once (a0 : List Int × Int × Int) (a1 : Int) : Option ((Bool × PUnit) × (List Int × Int × Int) × PUnit) := Fs_l1Once.sem (a0, a1, ())
theorem Ss_l1Once_eq (a0 : List Int × Int × Int) (a1 : Int) : Ss_l1Once a0 a1 =
  (Ss_l1Below a0 a1).bind fun y => some ((y.fst.fst == 0, ()), y.snd.fst, ()) := by kernel_rfl
noncomputable def Es_l1PickInt : Env := mkEnv C tab_s_l1Once [0, 1, 2, 3, 5, 10] 12 (fun k => bif k == 1 then some 19 else none)
 (Hints.mk (fun x x_1 => none) (fun s => Nat.testBit 1 s) fun r => bif r == 0 then [] else [])
 [(ty67, Mode.ptr 0), (ty72, Mode.ro)]
noncomputable def Ks_l1PickInt := endK C [(ty67, Mode.ptr 0), (ty72, Mode.ro)] [(ty3, 0)] [RV.tmp 4]
noncomputable def Ss_l1PickInt (a0 : List Int × Int × Int) (a1 : List Int) : Option ((Int × PUnit) × (List Int × Int × Int) × PUnit) := Fs_l1PickInt.sem (a0, a1, ())
theorem Ss_l1PickInt_eq (a0 : List Int × Int × Int) (a1 : List Int) : Ss_l1PickInt a0 a1 =
  (Ss_l1Below a0 (↑a1.length : Int)).bind fun y => (getI a1 y.fst.fst).bind fun y_1 => some ((y_1, ()), y.snd.fst, ()) := by kernel_rfl
noncomputable def Es_l1Odd : Env := mkEnv C tab_s_l1PickInt [0, 1] 6 (fun k => bif k == 1 then some 5 else none)
 (Hints.mk (fun x x_1 => none) (fun s => Nat.testBit 1 s) fun r => bif r == 0 then [] else []) [(ty67, Mode.ptr 0)]
noncomputable def Ks_l1Odd := endK C [(ty67, Mode.ptr 0)] [(ty3, 0)] [RV.tmp 2]
noncomputable def Ss_l1Odd (a0 : List Int × Int × Int) : Option ((Int × PUnit) × (List Int × Int × Int) × PUnit) := Fs_l1Odd.sem (a0, ())
theorem Ss_l1Odd_eq (a0 : List Int × Int × Int) : Ss_l1Odd a0 =
  (Ss_l1PickInt a0
   [0, 1, -1, 2, 400000000, -400000000, 400000001, -400000001, 399999999, 9223372036854775807,
    -9223372036854775808]).bind
 fun y => some ((y.fst.fst, ()), y.snd.fst, ()) := by kernel_rfl
noncomputable def Es_l2Any : Env := mkEnv C tab_s_l1Odd [0, 1, 2] 31
 (fun k =>
  bif k == 3 then some 5 else bif k == 5 then some 5 else bif k == 7 then some 5 else bif k == 8 then some 5 else none)
 (Hints.mk (fun x x_1 => none) (fun s => Nat.testBit 1 s) fun r => bif r == 0 then [] else []) [(ty67, Mode.ptr 0)]
noncomputable def Ks_l2Any := endK C [(ty67, Mode.ptr 0)] [(ty26, 0)] [RV.cell 2 26]
noncomputable def Ss_l2Any (a0 : List Int × Int × Int) : Option ((Rat × PUnit) × (List Int × Int × Int) × PUnit) := Fs_l2Any.sem (a0, ())
theorem Ss_l2Any_eq (a0 : List Int × Int × Int) : Ss_l2Any a0 =
  (Ss_l1Below a0 12).bind fun y =>
 bif y.fst.fst == 0 then some (((0, 0), ()), y.snd.fst, ())
 else
  bif y.fst.fst == 1 then
   (Ss_l1Odd y.snd.fst).bind fun y =>
    (Ss_l1PickInt y.snd.fst [1, 2, 400000000, -1, 4]).bind fun y_1 =>
     some (((y.fst.fst, y_1.fst.fst), ()), y_1.snd.fst, ())
  else
   bif y.fst.fst == 2 then
    (Ss_l1Below y.snd.fst 400000000).bind fun y =>
     (Ss_l1Below y.snd.fst 400000000).bind fun y_1 =>
      (Ss_MakeRatio y.fst.fst (IntKind.i64.wrap (1 + y_1.fst.fst))).bind fun y =>
       some ((y.fst.fst, ()), y_1.snd.fst, ())
   else
    (Ss_l1Below y.snd.fst 41).bind fun y =>
     (Ss_l1Below y.snd.fst 12).bind fun y_1 =>
      (Ss_MakeRatio (IntKind.i64.wrap (y.fst.fst - 20)) (IntKind.i64.wrap (1 + y_1.fst.fst))).bind fun y =>
       some ((y.fst.fst, ()), y_1.snd.fst, ()) := by kernel_rfl
noncomputable def Es_l8Track : Env := mkEnv C tab_s_l2Any [0, 1, 3, 4, 5, 37, 40] 43
 (fun k =>
  bif k == 1 then some 13
  else bif k == 6 then some 61 else bif k == 9 then some 13 else bif k == 1000004 then some 57 else none)
 (Hints.mk (fun x x_1 => none) (fun s => Nat.testBit 1 s) fun r => bif r == 0 then [] else []) [(ty67, Mode.ptr 0)]
noncomputable def Ks_l8Track := endK C [(ty67, Mode.ptr 0)] [(ty24, 1)] [RV.tmp 2]
noncomputable def Ls_l8Track_4 (x0 : List Int × Int × Int) (x3 : List (Rat × Rat × Int × Int)) (x4 : Int) (x5 : Int) : Option ((List (Rat × Rat × Int × Int) × PUnit) × (List Int × Int × Int) × PUnit) := loopAt Es_l8Track [1, 1, 1, 0, 1, 0] (Try.f20.body.getD .skip) Ks_l8Track [V.box none 0 ty67 x0, V.dead, V.dead, V.d none (ty44.depth + 1) (Ty.slice 44 ty44) x3, V.d none 0 ty3 x4,
 V.d none 0 (Ty.int IntKind.i64) x5, V.dead, V.dead, V.dead, V.dead, V.dead, V.dead, V.dead, V.dead, V.dead, V.dead,
 V.dead, V.dead, V.dead, V.dead, V.dead, V.dead, V.dead, V.dead, V.dead, V.dead, V.dead, V.dead, V.dead, V.dead, V.dead,
 V.dead, V.dead, V.dead, V.dead, V.dead, V.dead, V.dead, V.dead, V.dead, V.dead, V.dead, V.dead]
noncomputable def Ss_l8Track (a0 : List Int × Int × Int) : Option ((List (Rat × Rat × Int × Int) × PUnit) × (List Int × Int × Int) × PUnit) := Fs_l8Track.sem (a0, ())
def js_l8Track : List (Nat × List Nat) := [(1000004, [1, 1, 1, 0, 1, 0])]
theorem js_l8Track_ok : okB js_l8Track (Try.f20.body.getD .skip) [] = true := by kernel_rfl
theorem Ls_l8Track_4_eq (x0 : List Int × Int × Int) (x3 : List (Rat × Rat × Int × Int)) (x4 : Int) (x5 : Int) : Ls_l8Track_4 x0 x3 x4 x5 =
  bif decide (x5 > 0) then
 (Ss_MakeRatio x4 2).bind fun y =>
  (Ss_l1Below x0 9).bind fun y_1 =>
   (Ss_l1Whole (IntKind.i64.wrap (y_1.fst.fst - 4))).bind fun y_2 =>
    (Ss_l1Below y_1.snd.fst 9).bind fun y_3 =>
     (Ss_l1Whole (IntKind.i64.wrap (y_3.fst.fst - 4))).bind fun y_4 =>
      bif decide ((x3.length + 1) * 48 ≤ 140737488355328) then
       (Ss_l1Below y_3.snd.fst 4).bind fun y_5 =>
        Ls_l8Track_4 y_5.snd.fst (x3 ++ [(y.fst.fst, y_2.fst.fst, y_4.fst.fst)])
         (IntKind.i64.wrap (IntKind.i64.wrap (x4 + 1) + y_5.fst.fst)) (IntKind.i64.wrap (x5 - 1))
      else none
else
 (Ss_l1Once x0 24).bind fun y =>
  bif y.fst.fst then
   (Ss_l2Any y.snd.fst).bind fun y =>
    (getI x3 0).bind fun y_1 =>
     (getI x3 0).bind fun y_2 =>
      (getI x3 0).bind fun y_3 =>
       (some (x3.set (Int.toNat 0) (y.fst.fst, y_3.snd))).bind fun y_4 => some ((y_4, ()), y.snd.fst, ())
  else some ((x3, ()), y.snd.fst, ()) := (turn_eq js_l8Track_ok [1, 1, 1, 0, 1, 0] (by kernel_rfl) _).trans (by kernel_rfl)
theorem Ss_l8Track_eq (a0 : List Int × Int × Int) : Ss_l8Track a0 =
  (Ss_l1Below a0 4).bind fun y =>
 (Ss_l1Below y.snd.fst 3).bind fun y_1 => Ls_l8Track_4 y_1.snd.fst [] y.fst.fst (IntKind.i64.wrap (1 + y_1.fst.fst)) := (Eq.trans (by kernel_rfl : Ss_l8Track a0 = denK Es_l8Track (Try.f20.body.getD .skip) Ks_l8Track (slots0 43 [(ty67, Mode.ptr 0)] (a0, ()))) (all_eq js_l8Track_ok _)).trans (by kernel_rfl)
noncomputable def Ei_IsNumber : Env := mkEnv C tab_s_DrawCutTrack [0, 1] 9 (fun x => none)
 (Hints.mk (fun x x_1 => none) (fun s => Nat.testBit 0 s) fun x => []) [(ty3, Mode.ro)]
noncomputable def Ki_IsNumber := endK C [(ty3, Mode.ro)] [(ty4, 0)] [RV.tmp 2]
noncomputable def Si_IsNumber (a0 : Int) : Option ((Bool × PUnit) × PUnit) := Fi_IsNumber.sem (a0, ())
theorem Si_IsNumber_eq (a0 : Int) : Si_IsNumber a0 =
  bif decide (a0 ≥ -400000000) then some ((decide (a0 ≤ 400000000), ()), ()) else some ((false, ()), ()) := by kernel_rfl
noncomputable def Ei_absolute : Env := mkEnv C tab_i_IsNumber [0, 1] 8 (fun x => none) (Hints.mk (fun x x_1 => none) (fun s => Nat.testBit 0 s) fun x => [])
 [(ty3, Mode.ro)]
noncomputable def Ki_absolute := endK C [(ty3, Mode.ro)] [(ty3, 0)] [RV.tmp 2]
noncomputable def Si_absolute (a0 : Int) : Option ((Int × PUnit) × PUnit) := Fi_absolute.sem (a0, ())
theorem Si_absolute_eq (a0 : Int) : Si_absolute a0 =
  bif decide (a0 < 0) then some ((IntKind.i64.wrap (0 - a0), ()), ()) else some ((a0, ()), ()) := by kernel_rfl
noncomputable def Ei_commonDivisor : Env := mkEnv C tab_i_absolute [0, 1, 2, 3] 16 (fun k => bif k == 1000002 then some 3 else none)
 (Hints.mk (fun x x_1 => none) (fun s => Nat.testBit 0 s) fun x => []) [(ty3, Mode.ro), (ty3, Mode.ro)]
noncomputable def Ki_commonDivisor := endK C [(ty3, Mode.ro), (ty3, Mode.ro)] [(ty3, 0)] [RV.tmp 4]
noncomputable def Li_commonDivisor_2 (x0 : Int) (x1 : Int) : Option ((Int × PUnit) × PUnit) := loopAt Ei_commonDivisor [1, 1, 0, 0] (Try.f54.body.getD .skip) Ki_commonDivisor [V.d none 0 ty3 x0, V.d none 0 ty3 x1, V.dead, V.dead, V.dead, V.dead, V.dead, V.dead, V.dead, V.dead, V.dead, V.dead,
 V.dead, V.dead, V.dead, V.dead]
noncomputable def Si_commonDivisor (a0 : Int) (a1 : Int) : Option ((Int × PUnit) × PUnit) := Fi_commonDivisor.sem (a0, a1, ())
def ji_commonDivisor : List (Nat × List Nat) := [(1000002, [1, 1, 0, 0])]
theorem ji_commonDivisor_ok : okB ji_commonDivisor (Try.f54.body.getD .skip) [] = true := by kernel_rfl
theorem Li_commonDivisor_2_eq (x0 : Int) (x1 : Int) : Li_commonDivisor_2 x0 x1 =
  bif x1 != 0 then bif x1 != 0 then Li_commonDivisor_2 x1 (x0.tmod x1) else none else some ((x0, ()), ()) := (turn_eq ji_commonDivisor_ok [1, 1, 0, 0] (by kernel_rfl) _).trans (by kernel_rfl)
theorem Si_commonDivisor_eq (a0 : Int) (a1 : Int) : Si_commonDivisor a0 a1 =
  (Si_absolute a0).bind fun y => (Si_absolute a1).bind fun y_1 => Li_commonDivisor_2 y.fst.fst y_1.fst.fst := (Eq.trans (by kernel_rfl : Si_commonDivisor a0 a1 = denK Ei_commonDivisor (Try.f54.body.getD .skip) Ki_commonDivisor (slots0 16 [(ty3, Mode.ro), (ty3, Mode.ro)] (a0, a1, ()))) (all_eq ji_commonDivisor_ok _)).trans (by kernel_rfl)
noncomputable def Ei_GcdOf : Env := mkEnv C tab_i_commonDivisor [0, 1, 2, 3] 16 (fun x => none)
 (Hints.mk (fun x x_1 => none) (fun s => Nat.testBit 0 s) fun x => []) [(ty3, Mode.ro), (ty3, Mode.ro)]
noncomputable def Ki_GcdOf := endK C [(ty3, Mode.ro), (ty3, Mode.ro)] [(ty3, 0)] [RV.tmp 4]
noncomputable def Si_GcdOf (a0 : Int) (a1 : Int) : Option ((Int × PUnit) × PUnit) := Fi_GcdOf.sem (a0, a1, ())
theorem Si_GcdOf_eq (a0 : Int) (a1 : Int) : Si_GcdOf a0 a1 =
  (Si_IsNumber a0).bind fun y =>
 bif !y.fst.fst then some ((0, ()), ())
 else
  (Si_IsNumber a1).bind fun y =>
   bif !y.fst.fst then some ((0, ()), ()) else (Si_commonDivisor a0 a1).bind fun y => some ((y.fst.fst, ()), ()) := by kernel_rfl
noncomputable def Ei_IsRatio : Env := mkEnv C tab_i_GcdOf [0, 1, 3, 7, 12, 17, 19] 24 (fun x => none)
 (Hints.mk (fun x x_1 => none) (fun s => Nat.testBit 0 s) fun x => []) [(ty26, Mode.ro)]
noncomputable def Ki_IsRatio := endK C [(ty26, Mode.ro)] [(ty4, 0)] [RV.tmp 2]
noncomputable def Si_IsRatio (a0 : Rat) : Option ((Bool × PUnit) × PUnit) := Fi_IsRatio.sem (a0, ())
theorem Si_IsRatio_eq (a0 : Rat) : Si_IsRatio a0 =
  bif decide (a0.snd ≥ 1) then
 bif decide (a0.snd ≤ 400000000) then
  (Si_IsNumber a0.fst).bind fun y =>
   bif y.fst.fst then (Si_GcdOf a0.fst a0.snd).bind fun y => some ((y.fst.fst == 1, ()), ()) else some ((false, ()), ())
 else some ((false, ()), ())
else some ((false, ()), ()) := by kernel_rfl
noncomputable def Ei_CompareRatios : Env := mkEnv C tab_i_IsRatio [0, 1, 2, 3, 5, 6, 15, 17, 20, 22] 31 (fun x => none)
 (Hints.mk (fun x x_1 => none) (fun s => Nat.testBit 0 s) fun x => []) [(ty26, Mode.ro), (ty26, Mode.ro)]
noncomputable def Ki_CompareRatios := endK C [(ty26, Mode.ro), (ty26, Mode.ro)] [(ty3, 0)] [RV.tmp 4]
noncomputable def Si_CompareRatios (a0 : Rat) (a1 : Rat) : Option ((Int × PUnit) × PUnit) := Fi_CompareRatios.sem (a0, a1, ())
theorem Si_CompareRatios_eq (a0 : Rat) (a1 : Rat) : Si_CompareRatios a0 a1 =
  (Si_IsRatio a0).bind fun y =>
 bif !y.fst.fst then some ((2, ()), ())
 else
  (Si_IsRatio a1).bind fun y =>
   bif !y.fst.fst then some ((2, ()), ())
   else
    bif decide (IntKind.i64.wrap (a0.fst * a1.snd) < IntKind.i64.wrap (a1.fst * a0.snd)) then some ((-1, ()), ())
    else
     bif decide (IntKind.i64.wrap (a0.fst * a1.snd) > IntKind.i64.wrap (a1.fst * a0.snd)) then some ((1, ()), ())
     else some ((0, ()), ()) := by kernel_rfl
noncomputable def Ei_IsTrack : Env := mkEnv C tab_i_CompareRatios [0, 1, 3, 4, 13, 18, 20, 25, 31, 39, 42, 43, 45] 51
 (fun k => bif k == 1000004 then some 57345 else none)
 (Hints.mk (fun x x_1 => none) (fun s => Nat.testBit 0 s) fun x => []) [(ty24, Mode.ro)]
noncomputable def Ki_IsTrack := endK C [(ty24, Mode.ro)] [(ty4, 0)] [RV.tmp 2]
noncomputable def Li_IsTrack_4 (x0 : List (Rat × Rat × Int × Int)) (x13 : List (Rat × Rat × Int × Int)) (x14 : Int) (x15 : Int) : Option ((Bool × PUnit) × PUnit) := loopAt Ei_IsTrack [1, 1, 0, 1, 0] (Try.f24.body.getD .skip) Ki_IsTrack [V.d none 0 ty24 x0, V.dead, V.dead, V.dead, V.dead, V.dead, V.dead, V.dead, V.dead, V.dead, V.dead, V.dead, V.dead,
 V.d none 0 ty24 x13, V.d none 0 (Ty.int IntKind.i64) x14, V.d none 0 (Ty.int IntKind.i64) x15, V.dead, V.dead, V.dead,
 V.dead, V.dead, V.dead, V.dead, V.dead, V.dead, V.dead, V.dead, V.dead, V.dead, V.dead, V.dead, V.dead, V.dead, V.dead,
 V.dead, V.dead, V.dead, V.dead, V.dead, V.dead, V.dead, V.dead, V.dead, V.dead, V.dead, V.dead, V.dead, V.dead, V.dead,
 V.dead, V.dead]
noncomputable def Si_IsTrack (a0 : List (Rat × Rat × Int × Int)) : Option ((Bool × PUnit) × PUnit) := Fi_IsTrack.sem (a0, ())
def ji_IsTrack : List (Nat × List Nat) := [(1000004, [1, 1, 0, 1, 0])]
theorem ji_IsTrack_ok : okB ji_IsTrack (Try.f24.body.getD .skip) [] = true := by kernel_rfl
theorem Li_IsTrack_4_eq (x0 : List (Rat × Rat × Int × Int)) (x13 : List (Rat × Rat × Int × Int)) (x14 : Int) (x15 : Int) : Li_IsTrack_4 x0 x13 x14 x15 =
  bif decide (x15 < x14) then
 (getI x13 x15).bind fun y =>
  (Si_IsRatio y.fst).bind fun y_1 =>
   bif !y_1.fst.fst then some ((false, ()), ())
   else
    (Si_IsRatio y.snd.fst).bind fun y_2 =>
     bif !y_2.fst.fst then some ((false, ()), ())
     else
      (Si_IsRatio y.snd.snd).bind fun y_3 =>
       bif !y_3.fst.fst then some ((false, ()), ())
       else
        bif decide (x15 > 0) then
         (getI x0 (IntKind.i64.wrap (x15 - 1))).bind fun y_4 =>
          (Si_CompareRatios y_4.fst y.fst).bind fun y =>
           bif y.fst.fst != -1 then some ((false, ()), ()) else Li_IsTrack_4 x0 x13 x14 (IntKind.i64.wrap (x15 + 1))
        else Li_IsTrack_4 x0 x13 x14 (IntKind.i64.wrap (x15 + 1))
else some ((true, ()), ()) := (turn_eq ji_IsTrack_ok [1, 1, 0, 1, 0] (by kernel_rfl) _).trans (by kernel_rfl)
theorem Si_IsTrack_eq (a0 : List (Rat × Rat × Int × Int)) : Si_IsTrack a0 =
  bif decide ((↑a0.length : Int) < 1) then some ((false, ()), ())
else bif decide ((↑a0.length : Int) > 6) then some ((false, ()), ()) else Li_IsTrack_4 a0 a0 (↑a0.length : Int) 0 := (Eq.trans (by kernel_rfl : Si_IsTrack a0 = denK Ei_IsTrack (Try.f24.body.getD .skip) Ki_IsTrack (slots0 51 [(ty24, Mode.ro)] (a0, ()))) (all_eq ji_IsTrack_ok _)).trans (by kernel_rfl)
noncomputable def Ei_reducedRatio : Env := mkEnv C tab_i_NegateRatio [0, 1, 2, 3, 4, 5, 6] 31 (fun x => none)
 (Hints.mk (fun x x_1 => none) (fun s => Nat.testBit 0 s) fun x => []) [(ty3, Mode.ro), (ty3, Mode.ro)]
noncomputable def Ki_reducedRatio := endK C [(ty3, Mode.ro), (ty3, Mode.ro)] [(ty26, 0)] [RV.cell 4 26]
noncomputable def Si_reducedRatio (a0 : Int) (a1 : Int) : Option ((Rat × PUnit) × PUnit) := Fi_reducedRatio.sem (a0, a1, ())
theorem Si_reducedRatio_eq (a0 : Int) (a1 : Int) : Si_reducedRatio a0 a1 =
  bif a1 == 0 then some (((0, 0), ()), ())
else
 bif decide (a1 < 0) then
  (Si_commonDivisor (IntKind.i64.wrap (0 - a0)) (IntKind.i64.wrap (0 - a1))).bind fun y =>
   bif y.fst.fst != 0 then
    bif y.fst.fst != 0 then
     (Si_IsRatio
        (IntKind.i64.wrap ((IntKind.i64.wrap (0 - a0)).tdiv y.fst.fst),
         IntKind.i64.wrap ((IntKind.i64.wrap (0 - a1)).tdiv y.fst.fst))).bind
      fun y_1 =>
      bif !y_1.fst.fst then some (((0, 0), ()), ())
      else
       some
        (((IntKind.i64.wrap ((IntKind.i64.wrap (0 - a0)).tdiv y.fst.fst),
           IntKind.i64.wrap ((IntKind.i64.wrap (0 - a1)).tdiv y.fst.fst)),
          ()),
         ())
    else none
   else none
 else
  (Si_commonDivisor a0 a1).bind fun y =>
   bif y.fst.fst != 0 then
    bif y.fst.fst != 0 then
     (Si_IsRatio (IntKind.i64.wrap (a0.tdiv y.fst.fst), IntKind.i64.wrap (a1.tdiv y.fst.fst))).bind fun y_1 =>
      bif !y_1.fst.fst then some (((0, 0), ()), ())
      else some (((IntKind.i64.wrap (a0.tdiv y.fst.fst), IntKind.i64.wrap (a1.tdiv y.fst.fst)), ()), ())
    else none
   else none := by kernel_rfl
noncomputable def Ei_AddRatios : Env := mkEnv C tab_i_reducedRatio [0, 1, 2, 3, 4, 14, 16, 19, 21, 25, 27] 31 (fun x => none)
 (Hints.mk (fun x x_1 => none) (fun s => Nat.testBit 0 s) fun x => []) [(ty26, Mode.ro), (ty26, Mode.ro)]
noncomputable def Ki_AddRatios := endK C [(ty26, Mode.ro), (ty26, Mode.ro)] [(ty26, 0)] [RV.cell 4 26]
noncomputable def Si_AddRatios (a0 : Rat) (a1 : Rat) : Option ((Rat × PUnit) × PUnit) := Fi_AddRatios.sem (a0, a1, ())
theorem Si_AddRatios_eq (a0 : Rat) (a1 : Rat) : Si_AddRatios a0 a1 =
  (Si_IsRatio a0).bind fun y =>
 bif !y.fst.fst then some (((0, 0), ()), ())
 else
  (Si_IsRatio a1).bind fun y =>
   bif !y.fst.fst then some (((0, 0), ()), ())
   else
    (Si_reducedRatio (IntKind.i64.wrap (IntKind.i64.wrap (a0.fst * a1.snd) + IntKind.i64.wrap (a1.fst * a0.snd)))
       (IntKind.i64.wrap (a0.snd * a1.snd))).bind
     fun y => some ((y.fst.fst, ()), ()) := by kernel_rfl
noncomputable def Es_l1Less : Env := mkEnv C tab_i_CutTrack [0, 1, 2, 3, 5, 7, 10, 12] 16 (fun x => none)
 (Hints.mk (fun x x_1 => none) (fun s => Nat.testBit 0 s) fun x => []) [(ty26, Mode.ro), (ty26, Mode.ro)]
noncomputable def Ks_l1Less := endK C [(ty26, Mode.ro), (ty26, Mode.ro)] [(ty4, 0)] [RV.tmp 4]
noncomputable def Ss_l1Less (a0 : Rat) (a1 : Rat) : Option ((Bool × PUnit) × PUnit) := Fs_l1Less.sem (a0, a1, ())
theorem Ss_l1Less_eq (a0 : Rat) (a1 : Rat) : Ss_l1Less a0 a1 =
  some ((decide (IntKind.i64.wrap (a0.fst * a1.snd) < IntKind.i64.wrap (a1.fst * a0.snd)), ()), ()) := by kernel_rfl
noncomputable def Es_IsTrack : Env := mkEnv C tab_s_l1Less [0, 1, 3, 10, 12, 13, 18, 20, 21, 27, 29, 30, 39, 42, 43, 45, 47, 48] 57
 (fun k => bif k == 1000002 then some 9 else none) (Hints.mk (fun x x_1 => none) (fun s => Nat.testBit 0 s) fun x => [])
 [(ty24, Mode.ro)]
noncomputable def Ks_IsTrack := endK C [(ty24, Mode.ro)] [(ty4, 0)] [RV.tmp 2]
noncomputable def Ls_IsTrack_2 (x0 : List (Rat × Rat × Int × Int)) (x3 : Int) : Option ((Bool × PUnit) × PUnit) := loopAt Es_IsTrack [1, 0, 1, 0] (Try.f26.body.getD .skip) Ks_IsTrack [V.d none 0 ty24 x0, V.dead, V.dead, V.d none 0 (Ty.int IntKind.i64) x3, V.dead, V.dead, V.dead, V.dead, V.dead, V.dead,
 V.dead, V.dead, V.dead, V.dead, V.dead, V.dead, V.dead, V.dead, V.dead, V.dead, V.dead, V.dead, V.dead, V.dead, V.dead,
 V.dead, V.dead, V.dead, V.dead, V.dead, V.dead, V.dead, V.dead, V.dead, V.dead, V.dead, V.dead, V.dead, V.dead, V.dead,
 V.dead, V.dead, V.dead, V.dead, V.dead, V.dead, V.dead, V.dead, V.dead, V.dead, V.dead, V.dead, V.dead, V.dead, V.dead,
 V.dead, V.dead]
noncomputable def Ss_IsTrack (a0 : List (Rat × Rat × Int × Int)) : Option ((Bool × PUnit) × PUnit) := Fs_IsTrack.sem (a0, ())
def js_IsTrack : List (Nat × List Nat) := [(1000002, [1, 0, 1, 0])]
theorem js_IsTrack_ok : okB js_IsTrack (Try.f26.body.getD .skip) [] = true := by kernel_rfl
theorem Ls_IsTrack_2_eq (x0 : List (Rat × Rat × Int × Int)) (x3 : Int) : Ls_IsTrack_2 x0 x3 =
  bif decide (x3 < (↑x0.length : Int)) then
 (getI x0 x3).bind fun y =>
  (Ss_IsRatio y.fst).bind fun y =>
   bif !y.fst.fst then some ((false, ()), ())
   else
    (getI x0 x3).bind fun y =>
     (Ss_IsRatio y.snd.fst).bind fun y =>
      bif !y.fst.fst then some ((false, ()), ())
      else
       (getI x0 x3).bind fun y =>
        (Ss_IsRatio y.snd.snd).bind fun y =>
         bif !y.fst.fst then some ((false, ()), ())
         else
          bif decide (x3 > 0) then
           (getI x0 (IntKind.i64.wrap (x3 - 1))).bind fun y =>
            (getI x0 x3).bind fun y_1 =>
             (Ss_l1Less y.fst y_1.fst).bind fun y =>
              bif !y.fst.fst then some ((false, ()), ()) else Ls_IsTrack_2 x0 (IntKind.i64.wrap (x3 + 1))
          else Ls_IsTrack_2 x0 (IntKind.i64.wrap (x3 + 1))
else (Ss_l1In (↑x0.length : Int) 1 6).bind fun y => some ((y.fst.fst, ()), ()) := (turn_eq js_IsTrack_ok [1, 0, 1, 0] (by kernel_rfl) _).trans (by kernel_rfl)
theorem Ss_IsTrack_eq (a0 : List (Rat × Rat × Int × Int)) : Ss_IsTrack a0 =
  Ls_IsTrack_2 a0 0 := (Eq.trans (by kernel_rfl : Ss_IsTrack a0 = denK Es_IsTrack (Try.f26.body.getD .skip) Ks_IsTrack (slots0 57 [(ty24, Mode.ro)] (a0, ()))) (all_eq js_IsTrack_ok _)).trans (by kernel_rfl)
noncomputable def Es_AddRatios : Env := mkEnv C tab_s_NegateRatio [0, 1, 2, 3, 4, 14, 16, 19, 21, 25, 27] 31 (fun x => none)
 (Hints.mk (fun x x_1 => none) (fun s => Nat.testBit 0 s) fun x => []) [(ty26, Mode.ro), (ty26, Mode.ro)]
noncomputable def Ks_AddRatios := endK C [(ty26, Mode.ro), (ty26, Mode.ro)] [(ty26, 0)] [RV.cell 4 26]
noncomputable def Ss_AddRatios (a0 : Rat) (a1 : Rat) : Option ((Rat × PUnit) × PUnit) := Fs_AddRatios.sem (a0, a1, ())
theorem Ss_AddRatios_eq (a0 : Rat) (a1 : Rat) : Ss_AddRatios a0 a1 =
  (Ss_IsRatio a0).bind fun y =>
 bif !y.fst.fst then some (((0, 0), ()), ())
 else
  (Ss_IsRatio a1).bind fun y =>
   bif !y.fst.fst then some (((0, 0), ()), ())
   else
    (Ss_l2Make (IntKind.i64.wrap (IntKind.i64.wrap (a0.fst * a1.snd) + IntKind.i64.wrap (a1.fst * a0.snd)))
       (IntKind.i64.wrap (a0.snd * a1.snd))).bind
     fun y => some ((y.fst.fst, ()), ()) := by kernel_rfl
noncomputable def Ew_point : Env := mkEnv C tab_s_CutTrack [0, 1, 2, 3, 5, 6, 7, 19, 21] 36 (fun k => bif k == 1000003 then some 99 else none)
 (Hints.mk (fun x x_1 => none) (fun s => Nat.testBit 0 s) fun x => []) [(ty22, Mode.ro), (ty3, Mode.ro)]
noncomputable def Kw_point := endK C [(ty22, Mode.ro), (ty3, Mode.ro)] [(ty31, 1)] [RV.tmp 4]
noncomputable def Lw_point_3 (x0 : List Int) (x1 : Int) (x5 : List Rat) (x6 : Int) : Option ((List Rat × PUnit) × PUnit) := loopAt Ew_point [1, 1, 0, 1, 0] (Try.f9.body.getD .skip) Kw_point [V.d none 0 ty22 x0, V.d none 0 ty3 x1, V.dead, V.dead, V.dead, V.d none (ty26.depth + 1) (Ty.slice 26 ty26) x5,
 V.d none 0 (Ty.int IntKind.i64) x6, V.dead, V.dead, V.dead, V.dead, V.dead, V.dead, V.dead, V.dead, V.dead, V.dead,
 V.dead, V.dead, V.dead, V.dead, V.dead, V.dead, V.dead, V.dead, V.dead, V.dead, V.dead, V.dead, V.dead, V.dead, V.dead,
 V.dead, V.dead, V.dead, V.dead]
noncomputable def Sw_point (a0 : List Int) (a1 : Int) : Option ((List Rat × PUnit) × PUnit) := Fw_point.sem (a0, a1, ())
def jw_point : List (Nat × List Nat) := [(1000003, [1, 1, 0, 1, 0])]
theorem jw_point_ok : okB jw_point (Try.f9.body.getD .skip) [] = true := by kernel_rfl
theorem Lw_point_3_eq (x0 : List Int) (x1 : Int) (x5 : List Rat) (x6 : Int) : Lw_point_3 x0 x1 x5 x6 =
  bif decide (x6 < x1) then
 bif decide (x6 < (↑x0.length : Int)) then
  (getI x0 x6).bind fun y =>
   (Ss_MakeRatio (IntKind.i64.wrap ((IntKind.i64.wrap y).tmod 17 - 8))
      (IntKind.i64.wrap (1 + (IntKind.i64.wrap ((IntKind.i64.wrap y).tdiv 17)).tmod 3))).bind
    fun y =>
    bif decide ((x5.length + 1) * 16 ≤ 140737488355328) then
     Lw_point_3 x0 x1 (x5 ++ [y.fst.fst]) (IntKind.i64.wrap (x6 + 1))
    else none
 else
  (Ss_MakeRatio (IntKind.i64.wrap (x6.tmod 17 - 8))
     (IntKind.i64.wrap (1 + (IntKind.i64.wrap (x6.tdiv 17)).tmod 3))).bind
   fun y =>
   bif decide ((x5.length + 1) * 16 ≤ 140737488355328) then
    Lw_point_3 x0 x1 (x5 ++ [y.fst.fst]) (IntKind.i64.wrap (x6 + 1))
   else none
else some ((x5, ()), ()) := (turn_eq jw_point_ok [1, 1, 0, 1, 0] (by kernel_rfl) _).trans (by kernel_rfl)
theorem Sw_point_eq (a0 : List Int) (a1 : Int) : Sw_point a0 a1 =
  Lw_point_3 a0 a1 [] 0 := (Eq.trans (by kernel_rfl : Sw_point a0 a1 = denK Ew_point (Try.f9.body.getD .skip) Kw_point (slots0 36 [(ty22, Mode.ro), (ty3, Mode.ro)] (a0, a1, ()))) (all_eq jw_point_ok _)).trans (by kernel_rfl)
noncomputable def Ei_NegateRatio : Env := mkEnv C tab_i_IsTrack [0, 1, 2, 7, 10] 13 (fun x => none)
 (Hints.mk (fun x x_1 => none) (fun s => Nat.testBit 0 s) fun x => []) [(ty26, Mode.ro)]
noncomputable def Ki_NegateRatio := endK C [(ty26, Mode.ro)] [(ty26, 0)] [RV.cell 2 26]
noncomputable def Si_NegateRatio (a0 : Rat) : Option ((Rat × PUnit) × PUnit) := Fi_NegateRatio.sem (a0, ())
theorem Si_NegateRatio_eq (a0 : Rat) : Si_NegateRatio a0 =
  (Si_IsRatio a0).bind fun y =>
 bif !y.fst.fst then some (((0, 0), ()), ()) else some (((IntKind.i64.wrap (0 - a0.fst), a0.snd), ()), ()) := by kernel_rfl
noncomputable def Ei_subtractRatios : Env := mkEnv C tab_i_AddRatios [0, 1, 2, 3, 4] 9 (fun x => none)
 (Hints.mk (fun x x_1 => none) (fun s => Nat.testBit 0 s) fun x => []) [(ty26, Mode.ro), (ty26, Mode.ro)]
noncomputable def Ki_subtractRatios := endK C [(ty26, Mode.ro), (ty26, Mode.ro)] [(ty26, 0)] [RV.cell 4 26]
noncomputable def Si_subtractRatios (a0 : Rat) (a1 : Rat) : Option ((Rat × PUnit) × PUnit) := Fi_subtractRatios.sem (a0, a1, ())
theorem Si_subtractRatios_eq (a0 : Rat) (a1 : Rat) : Si_subtractRatios a0 a1 =
  (Si_NegateRatio a1).bind fun y => (Si_AddRatios a0 y.fst.fst).bind fun y => some ((y.fst.fst, ()), ()) := by kernel_rfl
noncomputable def Ei_DivideRatios : Env := mkEnv C tab_i_subtractRatios [0, 1, 2, 3, 4, 14, 19, 21, 24, 26] 30 (fun x => none)
 (Hints.mk (fun x x_1 => none) (fun s => Nat.testBit 0 s) fun x => []) [(ty26, Mode.ro), (ty26, Mode.ro)]
noncomputable def Ki_DivideRatios := endK C [(ty26, Mode.ro), (ty26, Mode.ro)] [(ty26, 0)] [RV.cell 4 26]
noncomputable def Si_DivideRatios (a0 : Rat) (a1 : Rat) : Option ((Rat × PUnit) × PUnit) := Fi_DivideRatios.sem (a0, a1, ())
theorem Si_DivideRatios_eq (a0 : Rat) (a1 : Rat) : Si_DivideRatios a0 a1 =
  (Si_IsRatio a0).bind fun y =>
 bif !y.fst.fst then some (((0, 0), ()), ())
 else
  (Si_IsRatio a1).bind fun y =>
   bif !y.fst.fst then some (((0, 0), ()), ())
   else
    bif a1.fst == 0 then some (((0, 0), ()), ())
    else
     (Si_reducedRatio (IntKind.i64.wrap (a0.fst * a1.snd)) (IntKind.i64.wrap (a0.snd * a1.fst))).bind fun y =>
      some ((y.fst.fst, ()), ()) := by kernel_rfl
noncomputable def Ei_MultiplyRatios : Env := mkEnv C tab_i_DivideRatios [0, 1, 2, 3, 4, 14, 16, 19, 21] 25 (fun x => none)
 (Hints.mk (fun x x_1 => none) (fun s => Nat.testBit 0 s) fun x => []) [(ty26, Mode.ro), (ty26, Mode.ro)]
noncomputable def Ki_MultiplyRatios := endK C [(ty26, Mode.ro), (ty26, Mode.ro)] [(ty26, 0)] [RV.cell 4 26]
noncomputable def Si_MultiplyRatios (a0 : Rat) (a1 : Rat) : Option ((Rat × PUnit) × PUnit) := Fi_MultiplyRatios.sem (a0, a1, ())
theorem Si_MultiplyRatios_eq (a0 : Rat) (a1 : Rat) : Si_MultiplyRatios a0 a1 =
  (Si_IsRatio a0).bind fun y =>
 bif !y.fst.fst then some (((0, 0), ()), ())
 else
  (Si_IsRatio a1).bind fun y =>
   bif !y.fst.fst then some (((0, 0), ()), ())
   else
    (Si_reducedRatio (IntKind.i64.wrap (a0.fst * a1.fst)) (IntKind.i64.wrap (a0.snd * a1.snd))).bind fun y =>
     some ((y.fst.fst, ()), ()) := by kernel_rfl
noncomputable def Ei_lineBetween : Env := mkEnv C tab_i_MultiplyRatios [0, 1, 2, 3, 4, 5, 6, 7, 8, 9] 24 (fun x => none)
 (Hints.mk (fun x x_1 => none) (fun s => Nat.testBit 0 s) fun x => [])
 [(ty26, Mode.ro), (ty26, Mode.ro), (ty26, Mode.ro), (ty26, Mode.ro)]
noncomputable def Ki_lineBetween := endK C [(ty26, Mode.ro), (ty26, Mode.ro), (ty26, Mode.ro), (ty26, Mode.ro)] [(ty55, 0)] [RV.cell 8 55]
noncomputable def Si_lineBetween (a0 : Rat) (a1 : Rat) (a2 : Rat) (a3 : Rat) : Option (((Rat × Int × Int) × PUnit) × PUnit) := Fi_lineBetween.sem (a0, a1, a2, a3, ())
theorem Si_lineBetween_eq (a0 : Rat) (a1 : Rat) (a2 : Rat) (a3 : Rat) : Si_lineBetween a0 a1 a2 a3 =
  (Si_subtractRatios a2 a0).bind fun y =>
 (Si_subtractRatios a3 a1).bind fun y_1 =>
  (Si_DivideRatios y.fst.fst y_1.fst.fst).bind fun y =>
   (Si_MultiplyRatios y.fst.fst a1).bind fun y_2 =>
    (Si_subtractRatios a0 y_2.fst.fst).bind fun y_3 => some (((y.fst.fst, y_3.fst.fst), ()), ()) := by kernel_rfl
noncomputable def Ei_line_valid : Env := mkEnv C tab_i_lineBetween [0, 1, 3, 7] 11 (fun x => none)
 (Hints.mk (fun x x_1 => none) (fun s => Nat.testBit 0 s) fun x => []) [(ty55, Mode.ro)]
noncomputable def Ki_line_valid := endK C [(ty55, Mode.ro)] [(ty4, 0)] [RV.tmp 2]
noncomputable def Si_line_valid (a0 : Rat × Int × Int) : Option ((Bool × PUnit) × PUnit) := Fi_line_valid.sem (a0, ())
theorem Si_line_valid_eq (a0 : Rat × Int × Int) : Si_line_valid a0 =
  (Si_IsRatio a0.fst).bind fun y =>
 bif y.fst.fst then (Si_IsRatio a0.snd).bind fun y => some ((y.fst.fst, ()), ()) else some ((false, ()), ()) := by kernel_rfl
noncomputable def Ei_legBetween : Env := mkEnv C tab_i_line_valid [0, 1, 2, 3, 4, 6, 7, 9, 11, 13, 15, 17, 20, 22, 24, 26, 31, 35] 39 (fun x => none)
 (Hints.mk (fun x x_1 => none) (fun s => Nat.testBit 0 s) fun x => []) [(ty44, Mode.ro), (ty44, Mode.ro)]
noncomputable def Ki_legBetween := endK C [(ty44, Mode.ro), (ty44, Mode.ro)] [(ty57, 0), (ty4, 0)] [RV.cell 4 57, RV.tmp 5]
noncomputable def Si_legBetween (a0 : Rat × Rat × Int × Int) (a1 : Rat × Rat × Int × Int) : Option (((Rat × Rat × (Rat × Int × Int) × Rat × Int × Int) × Bool × PUnit) × PUnit) := Fi_legBetween.sem (a0, a1, ())
theorem Si_legBetween_eq (a0 : Rat × Rat × Int × Int) (a1 : Rat × Rat × Int × Int) : Si_legBetween a0 a1 =
  (Si_lineBetween a0.snd.fst a0.fst a1.snd.fst a1.fst).bind fun y =>
 (Si_lineBetween a0.snd.snd a0.fst a1.snd.snd a1.fst).bind fun y_1 =>
  (Si_line_valid y.fst.fst).bind fun y_2 =>
   bif y_2.fst.fst then
    (Si_line_valid y_1.fst.fst).bind fun y_3 => some (((a0.fst, a1.fst, y.fst.fst, y_1.fst.fst), y_3.fst.fst, ()), ())
   else some (((a0.fst, a1.fst, y.fst.fst, y_1.fst.fst), false, ()), ()) := by kernel_rfl
noncomputable def Ei_IsPoint : Env := mkEnv C tab_i_legBetween [0, 1, 2, 3, 5, 6, 11, 15] 21 (fun k => bif k == 1000004 then some 14337 else none)
 (Hints.mk (fun x x_1 => none) (fun s => Nat.testBit 0 s) fun x => []) [(ty31, Mode.ro), (ty3, Mode.ro)]
noncomputable def Ki_IsPoint := endK C [(ty31, Mode.ro), (ty3, Mode.ro)] [(ty4, 0)] [RV.tmp 4]
noncomputable def Li_IsPoint_4 (x0 : List Rat) (x11 : List Rat) (x12 : Int) (x13 : Int) : Option ((Bool × PUnit) × PUnit) := loopAt Ei_IsPoint [1, 1, 0, 1, 0] (Try.f30.body.getD .skip) Ki_IsPoint [V.d none 0 ty31 x0, V.dead, V.dead, V.dead, V.dead, V.dead, V.dead, V.dead, V.dead, V.dead, V.dead,
 V.d none 0 ty31 x11, V.d none 0 (Ty.int IntKind.i64) x12, V.d none 0 (Ty.int IntKind.i64) x13, V.dead, V.dead, V.dead,
 V.dead, V.dead, V.dead, V.dead]
noncomputable def Si_IsPoint (a0 : List Rat) (a1 : Int) : Option ((Bool × PUnit) × PUnit) := Fi_IsPoint.sem (a0, a1, ())
def ji_IsPoint : List (Nat × List Nat) := [(1000004, [1, 1, 0, 1, 0])]
theorem ji_IsPoint_ok : okB ji_IsPoint (Try.f30.body.getD .skip) [] = true := by kernel_rfl
theorem Li_IsPoint_4_eq (x0 : List Rat) (x11 : List Rat) (x12 : Int) (x13 : Int) : Li_IsPoint_4 x0 x11 x12 x13 =
  bif decide (x13 < x12) then
 (getI x11 x13).bind fun y =>
  (Si_IsRatio y).bind fun y =>
   bif !y.fst.fst then some ((false, ()), ()) else Li_IsPoint_4 x0 x11 x12 (IntKind.i64.wrap (x13 + 1))
else some ((true, ()), ()) := (turn_eq ji_IsPoint_ok [1, 1, 0, 1, 0] (by kernel_rfl) _).trans (by kernel_rfl)
theorem Si_IsPoint_eq (a0 : List Rat) (a1 : Int) : Si_IsPoint a0 a1 =
  bif (↑a0.length : Int) != a1 then some ((false, ()), ()) else Li_IsPoint_4 a0 a0 (↑a0.length : Int) 0 := (Eq.trans (by kernel_rfl : Si_IsPoint a0 a1 = denK Ei_IsPoint (Try.f30.body.getD .skip) Ki_IsPoint (slots0 21 [(ty31, Mode.ro), (ty3, Mode.ro)] (a0, a1, ()))) (all_eq ji_IsPoint_ok _)).trans (by kernel_rfl)
noncomputable def Ei_PositionAt : Env := mkEnv C tab_i_IsPoint [0, 1, 2, 3, 6, 7, 8, 9, 10, 11, 20, 25, 28, 33, 35, 42, 43, 46, 54, 55, 59, 60, 63, 64, 68, 69]
 78 (fun k => bif k == 1000004 then some 7340041 else none)
 (Hints.mk (fun d i => bif d == 42 then bif i == 0 then some 50 else bif i == 1 then some 51 else none else none)
  (fun s => Nat.testBit 0 s) fun x => [])
 [(ty24, Mode.ro), (ty26, Mode.ro)]
noncomputable def Ki_PositionAt := endK C [(ty24, Mode.ro), (ty26, Mode.ro)] [(ty31, 1), (ty4, 0)] [RV.tmp 4, RV.tmp 5]
noncomputable def Li_PositionAt_4 (x0 : List (Rat × Rat × Int × Int)) (x3 : Rat) (x20 : List (Rat × Rat × Int × Int)) (x21 : Int) (x22 : Int) : Option ((List Rat × Bool × PUnit) × PUnit) := loopAt Ei_PositionAt [1, 1, 0, 1, 0] (Try.f10.body.getD .skip) Ki_PositionAt [V.d none 0 ty24 x0, V.dead, V.dead, V.box none 0 ty26 x3, V.dead, V.dead, V.dead, V.dead, V.dead, V.dead, V.dead,
 V.dead, V.dead, V.dead, V.dead, V.dead, V.dead, V.dead, V.dead, V.dead, V.d none 0 ty24 x20,
 V.d none 0 (Ty.int IntKind.i64) x21, V.d none 0 (Ty.int IntKind.i64) x22, V.dead, V.dead, V.dead, V.dead, V.dead,
 V.dead, V.dead, V.dead, V.dead, V.dead, V.dead, V.dead, V.dead, V.dead, V.dead, V.dead, V.dead, V.dead, V.dead, V.dead,
 V.dead, V.dead, V.dead, V.dead, V.dead, V.dead, V.dead, V.dead, V.dead, V.dead, V.dead, V.dead, V.dead, V.dead, V.dead,
 V.dead, V.dead, V.dead, V.dead, V.dead, V.dead, V.dead, V.dead, V.dead, V.dead, V.dead, V.dead, V.dead, V.dead, V.dead,
 V.dead, V.dead, V.dead, V.dead, V.dead]
noncomputable def Si_PositionAt (a0 : List (Rat × Rat × Int × Int)) (a1 : Rat) : Option ((List Rat × Bool × PUnit) × PUnit) := Fi_PositionAt.sem (a0, a1, ())
def ji_PositionAt : List (Nat × List Nat) := [(1000004, [1, 1, 0, 1, 0])]
theorem ji_PositionAt_ok : okB ji_PositionAt (Try.f10.body.getD .skip) [] = true := by kernel_rfl
theorem Li_PositionAt_4_eq (x0 : List (Rat × Rat × Int × Int)) (x3 : Rat) (x20 : List (Rat × Rat × Int × Int)) (x21 : Int) (x22 : Int) : Li_PositionAt_4 x0 x3 x20 x21 x22 =
  bif decide (x22 < x21) then
 (getI x20 x22).bind fun y =>
  (Si_CompareRatios x3 y.fst).bind fun y_1 =>
   bif y_1.fst.fst == 0 then some (([y.snd.fst, y.snd.snd], true, ()), ())
   else
    bif decide (y_1.fst.fst > 0) then Li_PositionAt_4 x0 x3 x20 x21 (IntKind.i64.wrap (x22 + 1))
    else
     bif x22 == 0 then some (([], false, ()), ())
     else
      (getI x0 (IntKind.i64.wrap (x22 - 1))).bind fun y_2 =>
       (Si_legBetween y_2 y).bind fun y =>
        bif !y.fst.snd.fst then some (([], false, ()), ())
        else
         (Si_MultiplyRatios y.fst.fst.snd.snd.fst.fst x3).bind fun y_3 =>
          (Si_AddRatios y_3.fst.fst y.fst.fst.snd.snd.fst.snd).bind fun y_4 =>
           (Si_MultiplyRatios y.fst.fst.snd.snd.snd.fst x3).bind fun y_5 =>
            (Si_AddRatios y_5.fst.fst y.fst.fst.snd.snd.snd.snd).bind fun y =>
             (Si_IsPoint [y_4.fst.fst, y.fst.fst] 2).bind fun y_6 =>
              bif !y_6.fst.fst then some (([], false, ()), ()) else some (([y_4.fst.fst, y.fst.fst], true, ()), ())
else some (([], false, ()), ()) := (turn_eq ji_PositionAt_ok [1, 1, 0, 1, 0] (by kernel_rfl) _).trans (by kernel_rfl)
theorem Si_PositionAt_eq (a0 : List (Rat × Rat × Int × Int)) (a1 : Rat) : Si_PositionAt a0 a1 =
  (Si_IsTrack a0).bind fun y =>
 bif !y.fst.fst then some (([], false, ()), ())
 else
  (Si_IsRatio a1).bind fun y =>
   bif !y.fst.fst then some (([], false, ()), ()) else Li_PositionAt_4 a0 a1 a0 (↑a0.length : Int) 0 := (Eq.trans (by kernel_rfl : Si_PositionAt a0 a1 = denK Ei_PositionAt (Try.f10.body.getD .skip) Ki_PositionAt (slots0 78 [(ty24, Mode.ro), (ty26, Mode.ro)] (a0, a1, ()))) (all_eq ji_PositionAt_ok _)).trans (by kernel_rfl)
noncomputable def Ei_legsOf : Env := mkEnv C tab_w_point [0, 1, 4, 5, 6, 7, 8, 9, 16, 17, 20, 22, 25, 29, 41, 42, 45, 47, 49] 61
 (fun k => bif k == 1000008 then some 193 else none)
 (Hints.mk (fun d i => bif d == 41 then bif i == 0 then some 52 else bif i == 1 then some 53 else none else none)
  (fun s => Nat.testBit 0 s) fun x => [])
 [(ty24, Mode.ro)]
noncomputable def Ki_legsOf := endK C [(ty24, Mode.ro)] [(ty61, 1), (ty4, 0)] [RV.tmp 2, RV.tmp 3]
noncomputable def Li_legsOf_8 (x0 : List (Rat × Rat × Int × Int)) (x6 : List (Rat × Rat × (Rat × Int × Int) × Rat × Int × Int)) (x7 : Int) : Option ((List (Rat × Rat × (Rat × Int × Int) × Rat × Int × Int) × Bool × PUnit) × PUnit) := loopAt Ei_legsOf [1, 1, 1, 1, 0, 1, 0] (Try.f33.body.getD .skip) Ki_legsOf [V.d none 0 ty24 x0, V.dead, V.dead, V.dead, V.dead, V.dead, V.d none (ty57.depth + 1) (Ty.slice 57 ty57) x6,
 V.d none 0 (Ty.int IntKind.i64) x7, V.dead, V.dead, V.dead, V.dead, V.dead, V.dead, V.dead, V.dead, V.dead, V.dead,
 V.dead, V.dead, V.dead, V.dead, V.dead, V.dead, V.dead, V.dead, V.dead, V.dead, V.dead, V.dead, V.dead, V.dead, V.dead,
 V.dead, V.dead, V.dead, V.dead, V.dead, V.dead, V.dead, V.dead, V.dead, V.dead, V.dead, V.dead, V.dead, V.dead, V.dead,
 V.dead, V.dead, V.dead, V.dead, V.dead, V.dead, V.dead, V.dead, V.dead, V.dead, V.dead, V.dead, V.dead]
noncomputable def Si_legsOf (a0 : List (Rat × Rat × Int × Int)) : Option ((List (Rat × Rat × (Rat × Int × Int) × Rat × Int × Int) × Bool × PUnit) × PUnit) := Fi_legsOf.sem (a0, ())
def ji_legsOf : List (Nat × List Nat) := [(1000008, [1, 1, 1, 1, 0, 1, 0])]
theorem ji_legsOf_ok : okB ji_legsOf (Try.f33.body.getD .skip) [] = true := by kernel_rfl
theorem Li_legsOf_8_eq (x0 : List (Rat × Rat × Int × Int)) (x6 : List (Rat × Rat × (Rat × Int × Int) × Rat × Int × Int)) (x7 : Int) : Li_legsOf_8 x0 x6 x7 =
  bif decide (x7 < (↑x0.length : Int)) then
 (getI x0 (IntKind.i64.wrap (x7 - 1))).bind fun y =>
  (getI x0 x7).bind fun y_1 =>
   (Si_legBetween y y_1).bind fun y =>
    bif !y.fst.snd.fst then some (([], false, ()), ())
    else
     bif decide ((x6.length + 1) * 96 ≤ 140737488355328) then
      Li_legsOf_8 x0 (x6 ++ [y.fst.fst]) (IntKind.i64.wrap (x7 + 1))
     else none
else some ((x6, true, ()), ()) := (turn_eq ji_legsOf_ok [1, 1, 1, 1, 0, 1, 0] (by kernel_rfl) _).trans (by kernel_rfl)
theorem Si_legsOf_eq (a0 : List (Rat × Rat × Int × Int)) : Si_legsOf a0 =
  (Si_IsTrack a0).bind fun y =>
 bif !y.fst.fst then some (([], false, ()), ())
 else
  bif (↑a0.length : Int) == 1 then
   (getI a0 0).bind fun y => some (([(y.fst, y.fst, ((0, 1), y.snd.fst), (0, 1), y.snd.snd)], true, ()), ())
  else Li_legsOf_8 a0 [] 1 := (Eq.trans (by kernel_rfl : Si_legsOf a0 = denK Ei_legsOf (Try.f33.body.getD .skip) Ki_legsOf (slots0 61 [(ty24, Mode.ro)] (a0, ()))) (all_eq ji_legsOf_ok _)).trans (by kernel_rfl)
noncomputable def Ei_SpeedOf : Env := mkEnv C tab_i_legsOf [0, 1, 2, 4, 5, 6, 7, 8, 9, 10, 11, 20, 24, 26, 27, 29, 30, 32, 36, 38] 50
 (fun k => bif k == 1000006 then some 7340116 else bif k == 1000009 then some 30072111188 else none)
 (Hints.mk (fun d i => bif d == 11 then bif i == 0 then some 14 else bif i == 1 then some 15 else none else none)
  (fun s => Nat.testBit 0 s) fun x => [])
 [(ty24, Mode.ro)]
noncomputable def Ki_SpeedOf := endK C [(ty24, Mode.ro)] [(ty26, 0), (ty4, 0)] [RV.cell 2 26, RV.tmp 3]
noncomputable def Li_SpeedOf_9 (x2 : Rat) (x4 : List (Rat × Rat × (Rat × Int × Int) × Rat × Int × Int)) (x6 : Rat) (x21 : Int) (x22 : Int) (x32 : List Rat) (x33 : Int) (x34 : Int) : Option ((Rat × Bool × PUnit) × PUnit) := loopAt Ei_SpeedOf [1, 1, 1, 1, 0, 1, 0, 0, 1, 1, 0, 0, 1, 1, 0] (Try.f12.body.getD .skip) Ki_SpeedOf [V.dead, V.dead, V.box none ty26.depth ty26 x2, V.dead, V.d none 1 ty61 x4, V.dead, V.box none ty26.depth ty26 x6,
 V.dead, V.dead, V.dead, V.dead, V.dead, V.dead, V.dead, V.dead, V.dead, V.dead, V.dead, V.dead, V.dead,
 V.view 4 [] ty61, V.d none 0 (Ty.int IntKind.i64) x21, V.d none 0 (Ty.int IntKind.i64) x22, V.dead, V.dead, V.dead,
 V.dead, V.dead, V.dead, V.dead, V.dead, V.dead,
 V.d none ((minO none (minO none none)).getD ty26.depth + 1) (Ty.slice 26 ty26) x32,
 V.d none 0 (Ty.int IntKind.i64) x33, V.d none 0 (Ty.int IntKind.i64) x34, V.dead, V.dead, V.dead, V.dead, V.dead,
 V.dead, V.dead, V.dead, V.dead, V.dead, V.dead, V.dead, V.dead, V.dead, V.dead]
noncomputable def Li_SpeedOf_6 (x2 : Rat) (x4 : List (Rat × Rat × (Rat × Int × Int) × Rat × Int × Int)) (x6 : Rat) (x21 : Int) (x22 : Int) : Option ((Rat × Bool × PUnit) × PUnit) := loopAt Ei_SpeedOf [1, 1, 1, 1, 0, 1, 0] (Try.f12.body.getD .skip) Ki_SpeedOf [V.dead, V.dead, V.box none ty26.depth ty26 x2, V.dead, V.d none 1 ty61 x4, V.dead, V.box none ty26.depth ty26 x6,
 V.dead, V.dead, V.dead, V.dead, V.dead, V.dead, V.dead, V.dead, V.dead, V.dead, V.dead, V.dead, V.dead,
 V.view 4 [] ty61, V.d none 0 (Ty.int IntKind.i64) x21, V.d none 0 (Ty.int IntKind.i64) x22, V.dead, V.dead, V.dead,
 V.dead, V.dead, V.dead, V.dead, V.dead, V.dead, V.dead, V.dead, V.dead, V.dead, V.dead, V.dead, V.dead, V.dead, V.dead,
 V.dead, V.dead, V.dead, V.dead, V.dead, V.dead, V.dead, V.dead, V.dead]
noncomputable def Si_SpeedOf (a0 : List (Rat × Rat × Int × Int)) : Option ((Rat × Bool × PUnit) × PUnit) := Fi_SpeedOf.sem (a0, ())
def ji_SpeedOf : List (Nat × List Nat) := [(1000006, [1, 1, 1, 1, 0, 1, 0]), (1000009, [1, 1, 1, 1, 0, 1, 0, 0, 1, 1, 0, 0, 1, 1, 0])]
theorem ji_SpeedOf_ok : okB ji_SpeedOf (Try.f12.body.getD .skip) [] = true := by kernel_rfl
theorem Li_SpeedOf_9_eq (x2 : Rat) (x4 : List (Rat × Rat × (Rat × Int × Int) × Rat × Int × Int)) (x6 : Rat) (x21 : Int) (x22 : Int) (x32 : List Rat) (x33 : Int) (x34 : Int) : Li_SpeedOf_9 x2 x4 x6 x21 x22 x32 x33 x34 =
  bif decide (x34 < x33) then
 (getI x32 x34).bind fun y =>
  (getI x32 x34).bind fun y =>
   (Si_absolute y.fst).bind fun y_1 =>
    (Si_CompareRatios (y_1.fst.fst, y.snd) x6).bind fun y_2 =>
     bif decide (y_2.fst.fst > 0) then
      Li_SpeedOf_9 x2 x4 (y_1.fst.fst, y.snd) x21 x22 x32 x33 (IntKind.i64.wrap (x34 + 1))
     else Li_SpeedOf_9 x2 x4 x6 x21 x22 x32 x33 (IntKind.i64.wrap (x34 + 1))
else Li_SpeedOf_6 x2 x4 x6 x21 (IntKind.i64.wrap (x22 + 1)) := (turn_eq ji_SpeedOf_ok [1, 1, 1, 1, 0, 1, 0, 0, 1, 1, 0, 0, 1, 1, 0] (by kernel_rfl) _).trans (by kernel_rfl)
theorem Li_SpeedOf_6_eq (x2 : Rat) (x4 : List (Rat × Rat × (Rat × Int × Int) × Rat × Int × Int)) (x6 : Rat) (x21 : Int) (x22 : Int) : Li_SpeedOf_6 x2 x4 x6 x21 x22 =
  bif decide (x22 < x21) then
 (getI x4 x22).bind fun y =>
  (getI x4 x22).bind fun y => Li_SpeedOf_9 x2 x4 x6 x21 x22 [y.snd.snd.fst.fst, y.snd.snd.snd.fst] (↑2 : Int) 0
else some ((x6, true, ()), ()) := (turn_eq ji_SpeedOf_ok [1, 1, 1, 1, 0, 1, 0] (by kernel_rfl) _).trans (by kernel_rfl)
theorem Si_SpeedOf_eq (a0 : List (Rat × Rat × Int × Int)) : Si_SpeedOf a0 =
  (Si_legsOf a0).bind fun y =>
 bif !y.fst.snd.fst then some (((0, 0), false, ()), ())
 else Li_SpeedOf_6 (0, 0) y.fst.fst (0, 1) (↑(List.length y.fst.fst) : Int) 0 := (Eq.trans (by kernel_rfl : Si_SpeedOf a0 = denK Ei_SpeedOf (Try.f12.body.getD .skip) Ki_SpeedOf (slots0 50 [(ty24, Mode.ro)] (a0, ()))) (all_eq ji_SpeedOf_ok _)).trans (by kernel_rfl)
noncomputable def Es_DrawCutTrack : Env := mkEnv C tab_s_l8Track [0, 1, 3, 4, 5, 6, 7] 22 (fun k => bif k == 4 then some 252 else none)
 (Hints.mk (fun x x_1 => none) (fun s => Nat.testBit 32 s) fun r => bif r == 5 then [] else []) [(ty22, Mode.ro)]
noncomputable def Ks_DrawCutTrack := endK C [(ty22, Mode.ro)] [(ty24, 1), (ty26, 0), (ty26, 0)] [RV.tmp 2, RV.cell 3 26, RV.cell 4 26]
noncomputable def Ss_DrawCutTrack (a0 : List Int) : Option ((List (Rat × Rat × Int × Int) × Rat × Rat × PUnit) × PUnit) := Fs_DrawCutTrack.sem (a0, ())
theorem Ss_DrawCutTrack_eq (a0 : List Int) : Ss_DrawCutTrack a0 =
  (Ss_l1New a0).bind fun y =>
 (Ss_l8Track y.fst.fst).bind fun y =>
  (Ss_l1Below y.snd.fst 12).bind fun y_1 =>
   (Ss_MakeRatio y_1.fst.fst 3).bind fun y_2 =>
    (Ss_l1Below y_1.snd.fst 6).bind fun y_3 =>
     (Ss_MakeRatio (IntKind.i64.wrap (y_1.fst.fst + y_3.fst.fst)) 3).bind fun y_4 =>
      some ((y.fst.fst, y_2.fst.fst, y_4.fst.fst, ()), ()) := by kernel_rfl
noncomputable def Ei_CutTrack : Env := mkEnv C tab_i_PositionAt
 [0, 1, 2, 3, 4, 5, 8, 9, 10, 11, 12, 13, 14, 15, 21, 40, 41, 43, 44, 48, 52, 54, 60, 76, 77, 79, 80] 89
 (fun k => bif k == 1000007 then some 1970324836979761 else none)
 (Hints.mk
  (fun d i =>
   bif d == 15 then bif i == 0 then some 19 else bif i == 1 then some 20 else none
   else bif d == 21 then bif i == 0 then some 25 else bif i == 1 then some 26 else none else none)
  (fun s => Nat.testBit 0 s) fun x => [])
 [(ty24, Mode.ro), (ty26, Mode.ro), (ty26, Mode.ro)]
noncomputable def Ki_CutTrack := endK C [(ty24, Mode.ro), (ty26, Mode.ro), (ty26, Mode.ro)] [(ty24, 1), (ty4, 0)] [RV.tmp 6, RV.tmp 7]
noncomputable def Li_CutTrack_7 (x0 : List (Rat × Rat × Int × Int)) (x4 : Rat) (x5 : Rat) (x10 : List Rat) (x12 : List (Rat × Rat × Int × Int)) (x48 : List (Rat × Rat × Int × Int)) (x49 : Int) (x50 : Int) : Option ((List (Rat × Rat × Int × Int) × Bool × PUnit) × PUnit) := loopAt Ei_CutTrack [1, 1, 1, 1, 1, 0, 1, 0] (Try.f14.body.getD .skip) Ki_CutTrack [V.d none 0 ty24 x0, V.dead, V.dead, V.dead, V.box none 0 ty26 x4, V.box none 0 ty26 x5, V.dead, V.dead, V.dead, V.dead,
 V.d none 1 ty31 x10, V.dead, V.d none ((minO none none).getD ty44.depth + 1) (Ty.slice 44 ty44) x12, V.dead, V.dead,
 V.dead, V.dead, V.dead, V.dead, V.dead, V.dead, V.dead, V.dead, V.dead, V.dead, V.dead, V.dead, V.dead, V.dead, V.dead,
 V.dead, V.dead, V.dead, V.dead, V.dead, V.dead, V.dead, V.dead, V.dead, V.dead, V.dead, V.dead, V.dead, V.dead, V.dead,
 V.dead, V.dead, V.dead, V.d none 0 ty24 x48, V.d none 0 (Ty.int IntKind.i64) x49, V.d none 0 (Ty.int IntKind.i64) x50,
 V.dead, V.dead, V.dead, V.dead, V.dead, V.dead, V.dead, V.dead, V.dead, V.dead, V.dead, V.dead, V.dead, V.dead, V.dead,
 V.dead, V.dead, V.dead, V.dead, V.dead, V.dead, V.dead, V.dead, V.dead, V.dead, V.dead, V.dead, V.dead, V.dead, V.dead,
 V.dead, V.dead, V.dead, V.dead, V.dead, V.dead, V.dead, V.dead]
noncomputable def Si_CutTrack (a0 : List (Rat × Rat × Int × Int)) (a1 : Rat) (a2 : Rat) : Option ((List (Rat × Rat × Int × Int) × Bool × PUnit) × PUnit) := Fi_CutTrack.sem (a0, a1, a2, ())
def ji_CutTrack : List (Nat × List Nat) := [(1000007, [1, 1, 1, 1, 1, 0, 1, 0])]
theorem ji_CutTrack_ok : okB ji_CutTrack (Try.f14.body.getD .skip) [] = true := by kernel_rfl
theorem Li_CutTrack_7_eq (x0 : List (Rat × Rat × Int × Int)) (x4 : Rat) (x5 : Rat) (x10 : List Rat) (x12 : List (Rat × Rat × Int × Int)) (x48 : List (Rat × Rat × Int × Int)) (x49 : Int) (x50 : Int) : Li_CutTrack_7 x0 x4 x5 x10 x12 x48 x49 x50 =
  bif decide (x50 < x49) then
 (getI x48 x50).bind fun y =>
  (Si_CompareRatios y.fst x4).bind fun y_1 =>
   bif decide (y_1.fst.fst > 0) then
    (Si_CompareRatios y.fst x5).bind fun y_2 =>
     bif decide (y_2.fst.fst < 0) then
      bif decide ((x12.length + 1) * 48 ≤ 140737488355328) then
       Li_CutTrack_7 x0 x4 x5 x10 (x12 ++ [y]) x48 x49 (IntKind.i64.wrap (x50 + 1))
      else none
     else Li_CutTrack_7 x0 x4 x5 x10 x12 x48 x49 (IntKind.i64.wrap (x50 + 1))
   else Li_CutTrack_7 x0 x4 x5 x10 x12 x48 x49 (IntKind.i64.wrap (x50 + 1))
else
 bif !(x5.fst == x4.fst && x5.snd == x4.snd) then
  (getI x10 0).bind fun y =>
   (getI x10 0).bind fun y =>
    (getI x10 1).bind fun y_1 =>
     (getI x10 1).bind fun y_2 =>
      bif decide ((x12.length + 1) * 48 ≤ 140737488355328) then
       (Si_IsTrack (x12 ++ [(x5, y, y_2)])).bind fun y_3 =>
        bif !y_3.fst.fst then some (([], false, ()), ()) else some ((x12 ++ [(x5, y, y_2)], true, ()), ())
      else none
 else (Si_IsTrack x12).bind fun y => bif !y.fst.fst then some (([], false, ()), ()) else some ((x12, true, ()), ()) := (turn_eq ji_CutTrack_ok [1, 1, 1, 1, 1, 0, 1, 0] (by kernel_rfl) _).trans (by kernel_rfl)
theorem Si_CutTrack_eq (a0 : List (Rat × Rat × Int × Int)) (a1 : Rat) (a2 : Rat) : Si_CutTrack a0 a1 a2 =
  (Si_PositionAt a0 a1).bind fun y =>
 (Si_PositionAt a0 a2).bind fun y_1 =>
  bif !y.fst.snd.fst then some (([], false, ()), ())
  else
   bif !y_1.fst.snd.fst then some (([], false, ()), ())
   else
    (Si_CompareRatios a2 a1).bind fun y_2 =>
     bif decide (y_2.fst.fst < 0) then some (([], false, ()), ())
     else
      (getI y.fst.fst 0).bind fun y_3 =>
       (getI y.fst.fst 0).bind fun y_4 =>
        (getI y.fst.fst 1).bind fun y_5 =>
         (getI y.fst.fst 1).bind fun y => Li_CutTrack_7 a0 a1 a2 y_1.fst.fst [(a1, y_4, y)] a0 (↑a0.length : Int) 0 := (Eq.trans (by kernel_rfl : Si_CutTrack a0 a1 a2 = denK Ei_CutTrack (Try.f14.body.getD .skip) Ki_CutTrack (slots0 89 [(ty24, Mode.ro), (ty26, Mode.ro), (ty26, Mode.ro)] (a0, a1, a2, ()))) (all_eq ji_CutTrack_ok _)).trans (by kernel_rfl)
noncomputable def Es_NegateRatio : Env := mkEnv C tab_s_IsTrack [0, 1, 2, 7, 10] 13 (fun x => none)
 (Hints.mk (fun x x_1 => none) (fun s => Nat.testBit 0 s) fun x => []) [(ty26, Mode.ro)]
noncomputable def Ks_NegateRatio := endK C [(ty26, Mode.ro)] [(ty26, 0)] [RV.cell 2 26]
noncomputable def Ss_NegateRatio (a0 : Rat) : Option ((Rat × PUnit) × PUnit) := Fs_NegateRatio.sem (a0, ())
theorem Ss_NegateRatio_eq (a0 : Rat) : Ss_NegateRatio a0 =
  (Ss_IsRatio a0).bind fun y =>
 bif !y.fst.fst then some (((0, 0), ()), ()) else some (((IntKind.i64.wrap (0 - a0.fst), a0.snd), ()), ()) := by kernel_rfl
noncomputable def Es_DivideRatios : Env := mkEnv C tab_s_AddRatios [0, 1, 2, 3, 4, 14, 19, 21, 24, 26] 30 (fun x => none)
 (Hints.mk (fun x x_1 => none) (fun s => Nat.testBit 0 s) fun x => []) [(ty26, Mode.ro), (ty26, Mode.ro)]
noncomputable def Ks_DivideRatios := endK C [(ty26, Mode.ro), (ty26, Mode.ro)] [(ty26, 0)] [RV.cell 4 26]
noncomputable def Ss_DivideRatios (a0 : Rat) (a1 : Rat) : Option ((Rat × PUnit) × PUnit) := Fs_DivideRatios.sem (a0, a1, ())
theorem Ss_DivideRatios_eq (a0 : Rat) (a1 : Rat) : Ss_DivideRatios a0 a1 =
  (Ss_IsRatio a0).bind fun y =>
 bif !y.fst.fst then some (((0, 0), ()), ())
 else
  (Ss_IsRatio a1).bind fun y =>
   bif !y.fst.fst then some (((0, 0), ()), ())
   else
    bif a1.fst == 0 then some (((0, 0), ()), ())
    else
     (Ss_l2Make (IntKind.i64.wrap (a0.fst * a1.snd)) (IntKind.i64.wrap (a0.snd * a1.fst))).bind fun y =>
      some ((y.fst.fst, ()), ()) := by kernel_rfl
noncomputable def Es_MultiplyRatios : Env := mkEnv C tab_s_DivideRatios [0, 1, 2, 3, 4, 14, 16, 19, 21] 25 (fun x => none)
 (Hints.mk (fun x x_1 => none) (fun s => Nat.testBit 0 s) fun x => []) [(ty26, Mode.ro), (ty26, Mode.ro)]
noncomputable def Ks_MultiplyRatios := endK C [(ty26, Mode.ro), (ty26, Mode.ro)] [(ty26, 0)] [RV.cell 4 26]
noncomputable def Ss_MultiplyRatios (a0 : Rat) (a1 : Rat) : Option ((Rat × PUnit) × PUnit) := Fs_MultiplyRatios.sem (a0, a1, ())
theorem Ss_MultiplyRatios_eq (a0 : Rat) (a1 : Rat) : Ss_MultiplyRatios a0 a1 =
  (Ss_IsRatio a0).bind fun y =>
 bif !y.fst.fst then some (((0, 0), ()), ())
 else
  (Ss_IsRatio a1).bind fun y =>
   bif !y.fst.fst then some (((0, 0), ()), ())
   else
    (Ss_l2Make (IntKind.i64.wrap (a0.fst * a1.fst)) (IntKind.i64.wrap (a0.snd * a1.snd))).bind fun y =>
     some ((y.fst.fst, ()), ()) := by kernel_rfl
noncomputable def Es_l8Through : Env := mkEnv C tab_s_MultiplyRatios [0, 1, 2, 3, 4, 5, 6, 7, 8, 9] 27 (fun x => none)
 (Hints.mk (fun x x_1 => none) (fun s => Nat.testBit 0 s) fun x => [])
 [(ty26, Mode.ro), (ty26, Mode.ro), (ty26, Mode.ro), (ty26, Mode.ro)]
noncomputable def Ks_l8Through := endK C [(ty26, Mode.ro), (ty26, Mode.ro), (ty26, Mode.ro), (ty26, Mode.ro)] [(ty79, 0)] [RV.cell 8 79]
noncomputable def Ss_l8Through (a0 : Rat) (a1 : Rat) (a2 : Rat) (a3 : Rat) : Option (((Rat × Int × Int) × PUnit) × PUnit) := Fs_l8Through.sem (a0, a1, a2, a3, ())
theorem Ss_l8Through_eq (a0 : Rat) (a1 : Rat) (a2 : Rat) (a3 : Rat) : Ss_l8Through a0 a1 a2 a3 =
  (Ss_NegateRatio a1).bind fun y =>
 (Ss_AddRatios a3 y.fst.fst).bind fun y =>
  (Ss_NegateRatio a0).bind fun y_1 =>
   (Ss_AddRatios a2 y_1.fst.fst).bind fun y_2 =>
    (Ss_DivideRatios y.fst.fst y_2.fst.fst).bind fun y =>
     (Ss_MultiplyRatios y.fst.fst a0).bind fun y_3 =>
      (Ss_NegateRatio y_3.fst.fst).bind fun y_4 =>
       (Ss_AddRatios a1 y_4.fst.fst).bind fun y_5 => some (((y.fst.fst, y_5.fst.fst), ()), ()) := by kernel_rfl
noncomputable def Es_l8Leg : Env := mkEnv C tab_s_l8Through [0, 1, 2, 3, 4, 5, 7, 8, 9, 11, 13, 15, 18, 20, 22, 24, 29, 33, 38, 43] 47 (fun x => none)
 (Hints.mk (fun x x_1 => none) (fun s => Nat.testBit 0 s) fun x => []) [(ty44, Mode.ro), (ty44, Mode.ro)]
noncomputable def Ks_l8Leg := endK C [(ty44, Mode.ro), (ty44, Mode.ro)] [(ty79, 0), (ty79, 0), (ty4, 0)] [RV.cell 4 79, RV.cell 5 79, RV.tmp 6]
noncomputable def Ss_l8Leg (a0 : Rat × Rat × Int × Int) (a1 : Rat × Rat × Int × Int) : Option (((Rat × Int × Int) × (Rat × Int × Int) × Bool × PUnit) × PUnit) := Fs_l8Leg.sem (a0, a1, ())
theorem Ss_l8Leg_eq (a0 : Rat × Rat × Int × Int) (a1 : Rat × Rat × Int × Int) : Ss_l8Leg a0 a1 =
  (Ss_l8Through a0.fst a0.snd.fst a1.fst a1.snd.fst).bind fun y =>
 (Ss_l8Through a0.fst a0.snd.snd a1.fst a1.snd.snd).bind fun y_1 =>
  (Ss_IsRatio y.fst.fst.fst).bind fun y_2 =>
   bif y_2.fst.fst then
    (Ss_IsRatio y.fst.fst.snd).bind fun y_3 =>
     bif y_3.fst.fst then
      (Ss_IsRatio y_1.fst.fst.fst).bind fun y_4 =>
       bif y_4.fst.fst then
        (Ss_IsRatio y_1.fst.fst.snd).bind fun y_5 => some ((y.fst.fst, y_1.fst.fst, y_5.fst.fst, ()), ())
       else some ((y.fst.fst, y_1.fst.fst, false, ()), ())
     else some ((y.fst.fst, y_1.fst.fst, false, ()), ())
   else some ((y.fst.fst, y_1.fst.fst, false, ()), ()) := by kernel_rfl
noncomputable def Es_l8Value : Env := mkEnv C tab_s_l8Leg [0, 1, 2, 3, 4, 5, 9] 12 (fun x => none)
 (Hints.mk (fun x x_1 => none) (fun s => Nat.testBit 0 s) fun x => []) [(ty79, Mode.ro), (ty26, Mode.ro)]
noncomputable def Ks_l8Value := endK C [(ty79, Mode.ro), (ty26, Mode.ro)] [(ty26, 0)] [RV.cell 4 26]
noncomputable def Ss_l8Value (a0 : Rat × Int × Int) (a1 : Rat) : Option ((Rat × PUnit) × PUnit) := Fs_l8Value.sem (a0, a1, ())
theorem Ss_l8Value_eq (a0 : Rat × Int × Int) (a1 : Rat) : Ss_l8Value a0 a1 =
  (Ss_MultiplyRatios a0.fst a1).bind fun y => (Ss_AddRatios y.fst.fst a0.snd).bind fun y => some ((y.fst.fst, ()), ()) := by kernel_rfl
noncomputable def Es_IsPoint : Env := mkEnv C tab_s_l8Value [0, 1, 2, 3, 5, 12, 14] 22 (fun k => bif k == 1000002 then some 35 else none)
 (Hints.mk (fun x x_1 => none) (fun s => Nat.testBit 0 s) fun x => []) [(ty31, Mode.ro), (ty3, Mode.ro)]
noncomputable def Ks_IsPoint := endK C [(ty31, Mode.ro), (ty3, Mode.ro)] [(ty4, 0)] [RV.tmp 4]
noncomputable def Ls_IsPoint_2 (x0 : List Rat) (x1 : Int) (x5 : Int) : Option ((Bool × PUnit) × PUnit) := loopAt Es_IsPoint [1, 0, 1, 0] (Try.f53.body.getD .skip) Ks_IsPoint [V.d none 0 ty31 x0, V.d none 0 ty3 x1, V.dead, V.dead, V.dead, V.d none 0 (Ty.int IntKind.i64) x5, V.dead, V.dead,
 V.dead, V.dead, V.dead, V.dead, V.dead, V.dead, V.dead, V.dead, V.dead, V.dead, V.dead, V.dead, V.dead, V.dead]
noncomputable def Ss_IsPoint (a0 : List Rat) (a1 : Int) : Option ((Bool × PUnit) × PUnit) := Fs_IsPoint.sem (a0, a1, ())
def js_IsPoint : List (Nat × List Nat) := [(1000002, [1, 0, 1, 0])]
theorem js_IsPoint_ok : okB js_IsPoint (Try.f53.body.getD .skip) [] = true := by kernel_rfl
theorem Ls_IsPoint_2_eq (x0 : List Rat) (x1 : Int) (x5 : Int) : Ls_IsPoint_2 x0 x1 x5 =
  bif decide (x5 < (↑x0.length : Int)) then
 (getI x0 x5).bind fun y =>
  (Ss_IsRatio y).bind fun y =>
   bif !y.fst.fst then some ((false, ()), ()) else Ls_IsPoint_2 x0 x1 (IntKind.i64.wrap (x5 + 1))
else some (((↑x0.length : Int) == x1, ()), ()) := (turn_eq js_IsPoint_ok [1, 0, 1, 0] (by kernel_rfl) _).trans (by kernel_rfl)
theorem Ss_IsPoint_eq (a0 : List Rat) (a1 : Int) : Ss_IsPoint a0 a1 =
  Ls_IsPoint_2 a0 a1 0 := (Eq.trans (by kernel_rfl : Ss_IsPoint a0 a1 = denK Es_IsPoint (Try.f53.body.getD .skip) Ks_IsPoint (slots0 22 [(ty31, Mode.ro), (ty3, Mode.ro)] (a0, a1, ()))) (all_eq js_IsPoint_ok _)).trans (by kernel_rfl)
noncomputable def Es_PositionAt : Env := mkEnv C tab_s_IsPoint
 [0, 1, 2, 3, 6, 7, 8, 9, 10, 26, 28, 29, 33, 35, 36, 38, 40, 41, 47, 50, 51, 58, 60, 61, 65, 66, 69, 71, 73] 96
 (fun k => bif k == 1000004 then some 73 else none)
 (Hints.mk
  (fun d i =>
   bif d == 65 then bif i == 0 then some 76 else bif i == 1 then some 77 else bif i == 2 then some 78 else none
   else none)
  (fun s => Nat.testBit 0 s) fun x => [])
 [(ty24, Mode.ro), (ty26, Mode.ro)]
noncomputable def Ks_PositionAt := endK C [(ty24, Mode.ro), (ty26, Mode.ro)] [(ty31, 1), (ty4, 0)] [RV.tmp 4, RV.tmp 5]
noncomputable def Ls_PositionAt_4 (x0 : List (Rat × Rat × Int × Int)) (x3 : Rat) (x6 : Int) : Option ((List Rat × Bool × PUnit) × PUnit) := loopAt Es_PositionAt [1, 1, 0, 1, 0] (Try.f35.body.getD .skip) Ks_PositionAt [V.d none 0 ty24 x0, V.dead, V.dead, V.box none 0 ty26 x3, V.dead, V.dead, V.d none 0 (Ty.int IntKind.i64) x6, V.dead,
 V.dead, V.dead, V.dead, V.dead, V.dead, V.dead, V.dead, V.dead, V.dead, V.dead, V.dead, V.dead, V.dead, V.dead, V.dead,
 V.dead, V.dead, V.dead, V.dead, V.dead, V.dead, V.dead, V.dead, V.dead, V.dead, V.dead, V.dead, V.dead, V.dead, V.dead,
 V.dead, V.dead, V.dead, V.dead, V.dead, V.dead, V.dead, V.dead, V.dead, V.dead, V.dead, V.dead, V.dead, V.dead, V.dead,
 V.dead, V.dead, V.dead, V.dead, V.dead, V.dead, V.dead, V.dead, V.dead, V.dead, V.dead, V.dead, V.dead, V.dead, V.dead,
 V.dead, V.dead, V.dead, V.dead, V.dead, V.dead, V.dead, V.dead, V.dead, V.dead, V.dead, V.dead, V.dead, V.dead, V.dead,
 V.dead, V.dead, V.dead, V.dead, V.dead, V.dead, V.dead, V.dead, V.dead, V.dead, V.dead, V.dead, V.dead]
noncomputable def Ss_PositionAt (a0 : List (Rat × Rat × Int × Int)) (a1 : Rat) : Option ((List Rat × Bool × PUnit) × PUnit) := Fs_PositionAt.sem (a0, a1, ())
def js_PositionAt : List (Nat × List Nat) := [(1000004, [1, 1, 0, 1, 0])]
theorem js_PositionAt_ok : okB js_PositionAt (Try.f35.body.getD .skip) [] = true := by kernel_rfl
theorem Ls_PositionAt_4_eq (x0 : List (Rat × Rat × Int × Int)) (x3 : Rat) (x6 : Int) : Ls_PositionAt_4 x0 x3 x6 =
  bif decide (x6 < (↑x0.length : Int)) then
 (getI x0 x6).bind fun y =>
  bif y.fst.fst == x3.fst && y.fst.snd == x3.snd then
   (getI x0 x6).bind fun y => (getI x0 x6).bind fun y_1 => some (([y.snd.fst, y_1.snd.snd], true, ()), ())
  else
   bif decide (x6 > 0) then
    (getI x0 (IntKind.i64.wrap (x6 - 1))).bind fun y =>
     (Ss_l1Less y.fst x3).bind fun y =>
      bif y.fst.fst then
       (getI x0 x6).bind fun y =>
        (Ss_l1Less x3 y.fst).bind fun y =>
         bif y.fst.fst then
          (getI x0 (IntKind.i64.wrap (x6 - 1))).bind fun y =>
           (getI x0 x6).bind fun y_1 =>
            (Ss_l8Leg y y_1).bind fun y =>
             (Ss_l8Value y.fst.fst x3).bind fun y_2 =>
              (Ss_l8Value y.fst.snd.fst x3).bind fun y_3 =>
               bif !y.fst.snd.snd.fst then some (([], false, ()), ())
               else
                (Ss_IsPoint [y_2.fst.fst, y_3.fst.fst] 2).bind fun y =>
                 bif !y.fst.fst then some (([], false, ()), ()) else some (([y_2.fst.fst, y_3.fst.fst], true, ()), ())
         else Ls_PositionAt_4 x0 x3 (IntKind.i64.wrap (x6 + 1))
      else Ls_PositionAt_4 x0 x3 (IntKind.i64.wrap (x6 + 1))
   else Ls_PositionAt_4 x0 x3 (IntKind.i64.wrap (x6 + 1))
else some (([], false, ()), ()) := (turn_eq js_PositionAt_ok [1, 1, 0, 1, 0] (by kernel_rfl) _).trans (by kernel_rfl)
theorem Ss_PositionAt_eq (a0 : List (Rat × Rat × Int × Int)) (a1 : Rat) : Ss_PositionAt a0 a1 =
  (Ss_IsTrack a0).bind fun y =>
 bif !y.fst.fst then some (([], false, ()), ())
 else (Ss_IsRatio a1).bind fun y => bif !y.fst.fst then some (([], false, ()), ()) else Ls_PositionAt_4 a0 a1 0 := (Eq.trans (by kernel_rfl : Ss_PositionAt a0 a1 = denK Es_PositionAt (Try.f35.body.getD .skip) Ks_PositionAt (slots0 96 [(ty24, Mode.ro), (ty26, Mode.ro)] (a0, a1, ()))) (all_eq js_PositionAt_ok _)).trans (by kernel_rfl)
noncomputable def Es_CutTrack : Env := mkEnv C tab_s_PositionAt
 [0, 1, 2, 3, 4, 5, 8, 9, 10, 11, 12, 13, 14, 20, 39, 40, 42, 43, 54, 56, 57, 61, 63, 64, 70, 72, 81, 82, 84, 85] 95
 (fun k => bif k == 1000007 then some 13361 else none)
 (Hints.mk
  (fun d i =>
   bif d == 14 then bif i == 0 then some 18 else bif i == 1 then some 19 else none
   else bif d == 20 then bif i == 0 then some 24 else bif i == 1 then some 25 else none else none)
  (fun s => Nat.testBit 0 s) fun x => [])
 [(ty24, Mode.ro), (ty26, Mode.ro), (ty26, Mode.ro)]
noncomputable def Ks_CutTrack := endK C [(ty24, Mode.ro), (ty26, Mode.ro), (ty26, Mode.ro)] [(ty24, 1), (ty4, 0)] [RV.tmp 6, RV.tmp 7]
noncomputable def Ls_CutTrack_7 (x0 : List (Rat × Rat × Int × Int)) (x4 : Rat) (x5 : Rat) (x10 : List Rat) (x12 : List (Rat × Rat × Int × Int)) (x13 : Int) : Option ((List (Rat × Rat × Int × Int) × Bool × PUnit) × PUnit) := loopAt Es_CutTrack [1, 1, 1, 1, 1, 0, 1, 0] (Try.f15.body.getD .skip) Ks_CutTrack [V.d none 0 ty24 x0, V.dead, V.dead, V.dead, V.box none 0 ty26 x4, V.box none 0 ty26 x5, V.dead, V.dead, V.dead, V.dead,
 V.d none 1 ty31 x10, V.dead, V.d none ((minO none none).getD ty44.depth + 1) (Ty.slice 44 ty44) x12,
 V.d none 0 (Ty.int IntKind.i64) x13, V.dead, V.dead, V.dead, V.dead, V.dead, V.dead, V.dead, V.dead, V.dead, V.dead,
 V.dead, V.dead, V.dead, V.dead, V.dead, V.dead, V.dead, V.dead, V.dead, V.dead, V.dead, V.dead, V.dead, V.dead, V.dead,
 V.dead, V.dead, V.dead, V.dead, V.dead, V.dead, V.dead, V.dead, V.dead, V.dead, V.dead, V.dead, V.dead, V.dead, V.dead,
 V.dead, V.dead, V.dead, V.dead, V.dead, V.dead, V.dead, V.dead, V.dead, V.dead, V.dead, V.dead, V.dead, V.dead, V.dead,
 V.dead, V.dead, V.dead, V.dead, V.dead, V.dead, V.dead, V.dead, V.dead, V.dead, V.dead, V.dead, V.dead, V.dead, V.dead,
 V.dead, V.dead, V.dead, V.dead, V.dead, V.dead, V.dead, V.dead, V.dead, V.dead, V.dead]
noncomputable def Ss_CutTrack (a0 : List (Rat × Rat × Int × Int)) (a1 : Rat) (a2 : Rat) : Option ((List (Rat × Rat × Int × Int) × Bool × PUnit) × PUnit) := Fs_CutTrack.sem (a0, a1, a2, ())
def js_CutTrack : List (Nat × List Nat) := [(1000007, [1, 1, 1, 1, 1, 0, 1, 0])]
theorem js_CutTrack_ok : okB js_CutTrack (Try.f15.body.getD .skip) [] = true := by kernel_rfl
theorem Ls_CutTrack_7_eq (x0 : List (Rat × Rat × Int × Int)) (x4 : Rat) (x5 : Rat) (x10 : List Rat) (x12 : List (Rat × Rat × Int × Int)) (x13 : Int) : Ls_CutTrack_7 x0 x4 x5 x10 x12 x13 =
  bif decide (x13 < (↑x0.length : Int)) then
 (getI x0 x13).bind fun y =>
  (Ss_l1Less x4 y.fst).bind fun y =>
   bif y.fst.fst then
    (getI x0 x13).bind fun y =>
     (Ss_l1Less y.fst x5).bind fun y =>
      bif y.fst.fst then
       (getI x0 x13).bind fun y =>
        bif decide ((x12.length + 1) * 48 ≤ 140737488355328) then
         Ls_CutTrack_7 x0 x4 x5 x10 (x12 ++ [y]) (IntKind.i64.wrap (x13 + 1))
        else none
      else Ls_CutTrack_7 x0 x4 x5 x10 x12 (IntKind.i64.wrap (x13 + 1))
   else Ls_CutTrack_7 x0 x4 x5 x10 x12 (IntKind.i64.wrap (x13 + 1))
else
 bif !(x4.fst == x5.fst && x4.snd == x5.snd) then
  (getI x10 0).bind fun y =>
   (getI x10 0).bind fun y =>
    (getI x10 1).bind fun y_1 =>
     (getI x10 1).bind fun y_2 =>
      bif decide ((x12.length + 1) * 48 ≤ 140737488355328) then
       (Ss_IsTrack (x12 ++ [(x5, y, y_2)])).bind fun y_3 =>
        bif !y_3.fst.fst then some (([], false, ()), ()) else some ((x12 ++ [(x5, y, y_2)], true, ()), ())
      else none
 else (Ss_IsTrack x12).bind fun y => bif !y.fst.fst then some (([], false, ()), ()) else some ((x12, true, ()), ()) := (turn_eq js_CutTrack_ok [1, 1, 1, 1, 1, 0, 1, 0] (by kernel_rfl) _).trans (by kernel_rfl)
theorem Ss_CutTrack_eq (a0 : List (Rat × Rat × Int × Int)) (a1 : Rat) (a2 : Rat) : Ss_CutTrack a0 a1 a2 =
  (Ss_PositionAt a0 a1).bind fun y =>
 (Ss_PositionAt a0 a2).bind fun y_1 =>
  bif !y.fst.snd.fst then some (([], false, ()), ())
  else
   bif !y_1.fst.snd.fst then some (([], false, ()), ())
   else
    (Ss_l1Less a2 a1).bind fun y_2 =>
     bif y_2.fst.fst then some (([], false, ()), ())
     else
      (getI y.fst.fst 0).bind fun y_3 =>
       (getI y.fst.fst 0).bind fun y_4 =>
        (getI y.fst.fst 1).bind fun y_5 =>
         (getI y.fst.fst 1).bind fun y => Ls_CutTrack_7 a0 a1 a2 y_1.fst.fst [(a1, y_4, y)] 0 := (Eq.trans (by kernel_rfl : Ss_CutTrack a0 a1 a2 = denK Es_CutTrack (Try.f15.body.getD .skip) Ks_CutTrack (slots0 95 [(ty24, Mode.ro), (ty26, Mode.ro), (ty26, Mode.ro)] (a0, a1, a2, ()))) (all_eq js_CutTrack_ok _)).trans (by kernel_rfl)
noncomputable def Ew_samePoint : Env := mkEnv C tab_i_SpeedOf [0, 1, 2, 3, 5, 17, 19, 21, 23] 26 (fun k => bif k == 1000004 then some 35 else none)
 (Hints.mk (fun x x_1 => none) (fun s => Nat.testBit 0 s) fun x => []) [(ty31, Mode.ro), (ty31, Mode.ro)]
noncomputable def Kw_samePoint := endK C [(ty31, Mode.ro), (ty31, Mode.ro)] [(ty4, 0)] [RV.tmp 4]
noncomputable def Lw_samePoint_4 (x0 : List Rat) (x1 : List Rat) (x5 : Int) : Option ((Bool × PUnit) × PUnit) := loopAt Ew_samePoint [1, 1, 0, 1, 0] (Try.f16.body.getD .skip) Kw_samePoint [V.d none 0 ty31 x0, V.d none 0 ty31 x1, V.dead, V.dead, V.dead, V.d none 0 (Ty.int IntKind.i64) x5, V.dead, V.dead,
 V.dead, V.dead, V.dead, V.dead, V.dead, V.dead, V.dead, V.dead, V.dead, V.dead, V.dead, V.dead, V.dead, V.dead, V.dead,
 V.dead, V.dead, V.dead]
noncomputable def Sw_samePoint (a0 : List Rat) (a1 : List Rat) : Option ((Bool × PUnit) × PUnit) := Fw_samePoint.sem (a0, a1, ())
def jw_samePoint : List (Nat × List Nat) := [(1000004, [1, 1, 0, 1, 0])]
theorem jw_samePoint_ok : okB jw_samePoint (Try.f16.body.getD .skip) [] = true := by kernel_rfl
theorem Lw_samePoint_4_eq (x0 : List Rat) (x1 : List Rat) (x5 : Int) : Lw_samePoint_4 x0 x1 x5 =
  bif decide (x5 < (↑x0.length : Int)) then
 (getI x0 x5).bind fun y =>
  (getI x1 x5).bind fun y_1 =>
   bif !(y.fst == y_1.fst && y.snd == y_1.snd) then some ((false, ()), ())
   else Lw_samePoint_4 x0 x1 (IntKind.i64.wrap (x5 + 1))
else some ((true, ()), ()) := (turn_eq jw_samePoint_ok [1, 1, 0, 1, 0] (by kernel_rfl) _).trans (by kernel_rfl)
theorem Sw_samePoint_eq (a0 : List Rat) (a1 : List Rat) : Sw_samePoint a0 a1 =
  bif (↑a0.length : Int) != (↑a1.length : Int) then some ((false, ()), ()) else Lw_samePoint_4 a0 a1 0 := (Eq.trans (by kernel_rfl : Sw_samePoint a0 a1 = denK Ew_samePoint (Try.f16.body.getD .skip) Kw_samePoint (slots0 26 [(ty31, Mode.ro), (ty31, Mode.ro)] (a0, a1, ()))) (all_eq jw_samePoint_ok _)).trans (by kernel_rfl)
noncomputable def Ei_JoinTracks : Env := mkEnv C tab_w_samePoint [0, 1, 2, 3, 15, 19, 21, 22, 38] 41 (fun x => none)
 (Hints.mk (fun x x_1 => none) (fun s => Nat.testBit 0 s) fun x => []) [(ty24, Mode.ro), (ty24, Mode.ro)]
noncomputable def Ki_JoinTracks := endK C [(ty24, Mode.ro), (ty24, Mode.ro)] [(ty24, 1), (ty4, 0)] [RV.tmp 4, RV.tmp 5]
noncomputable def Si_JoinTracks (a0 : List (Rat × Rat × Int × Int)) (a1 : List (Rat × Rat × Int × Int)) : Option ((List (Rat × Rat × Int × Int) × Bool × PUnit) × PUnit) := Fi_JoinTracks.sem (a0, a1, ())
theorem Si_JoinTracks_eq (a0 : List (Rat × Rat × Int × Int)) (a1 : List (Rat × Rat × Int × Int)) : Si_JoinTracks a0 a1 =
  (Si_IsTrack a0).bind fun y =>
 bif !y.fst.fst then some (([], false, ()), ())
 else
  (Si_IsTrack a1).bind fun y =>
   bif !y.fst.fst then some (([], false, ()), ())
   else
    (getI a0 (IntKind.i64.wrap ((↑a0.length : Int) - 1))).bind fun y =>
     (getI a1 0).bind fun y_1 =>
      bif
        !(y.fst.fst == y_1.fst.fst && y.fst.snd == y_1.fst.snd &&
          (y.snd.fst.fst == y_1.snd.fst.fst && y.snd.fst.snd == y_1.snd.fst.snd &&
           (y.snd.snd.fst == y_1.snd.snd.fst && y.snd.snd.snd == y_1.snd.snd.snd))) then
       some (([], false, ()), ())
      else
       bif decide (IntKind.i64.wrap (IntKind.i64.wrap ((↑a0.length : Int) + (↑a1.length : Int)) - 1) > 6) then
        some (([], false, ()), ())
       else
        bif decide ((0 + a0.length) * 48 ≤ 140737488355328) then
         bif decide (0 ≤ 1) && decide (1 ≤ (↑a1.length : Int)) && decide ((↑a1.length : Int) ≤ (↑a1.length : Int)) then
          bif
            decide ((a0.length + (List.drop (Int.toNat 1) (List.take a1.length a1)).length) * 48 ≤ 140737488355328) then
           some ((a0 ++ List.drop (Int.toNat 1) (List.take a1.length a1), true, ()), ())
          else none
         else none
        else none := by kernel_rfl
noncomputable def Ew_FnCuts : Env := mkEnv C tab_i_JoinTracks
 (have y :=
  have y :=
   have y := [108, 109, 115, 121, 123, 124];
   68 :: 73 :: 78 :: 105 :: 107 :: y;
  have y := 40 :: 57 :: 59 :: 60 :: 65 :: 67 :: y;
  22 :: 23 :: 24 :: 27 :: 33 :: y;
 have y :=
  have y := 16 :: 17 :: 18 :: 19 :: 20 :: 21 :: y;
  11 :: 12 :: 13 :: 14 :: 15 :: y;
 have y := 6 :: 7 :: 8 :: 9 :: 10 :: y;
 0 :: 1 :: 3 :: 4 :: 5 :: y)
 148 (fun x => none)
 (Hints.mk
  (fun d i =>
   bif d == 27 then bif i == 0 then some 30 else bif i == 1 then some 31 else bif i == 2 then some 32 else none
   else
    bif d == 33 then bif i == 0 then some 38 else bif i == 1 then some 39 else none
    else
     bif d == 40 then bif i == 0 then some 45 else bif i == 1 then some 46 else none
     else
      bif d == 57 then bif i == 0 then some 63 else bif i == 1 then some 64 else none
      else
       bif d == 65 then bif i == 0 then some 71 else bif i == 1 then some 72 else none
       else
        bif d == 73 then bif i == 0 then some 76 else bif i == 1 then some 77 else none
        else
         bif d == 78 then bif i == 0 then some 81 else bif i == 1 then some 82 else none
         else
          bif d == 105 then bif i == 0 then some 113 else bif i == 1 then some 114 else none
          else
           bif d == 115 then bif i == 0 then some 119 else bif i == 1 then some 120 else none
           else bif d == 121 then bif i == 0 then some 127 else bif i == 1 then some 128 else none else none)
  (fun s => Nat.testBit 0 s) fun x => [])
 [(ty22, Mode.ro)]
noncomputable def Kw_FnCuts := endK C [(ty22, Mode.ro)] [(ty4, 0)] [RV.tmp 2]
noncomputable def Sw_FnCuts (a0 : List Int) : Option ((Bool × PUnit) × PUnit) := Fw_FnCuts.sem (a0, ())
theorem Sw_FnCuts_eq (a0 : List Int) : Sw_FnCuts a0 =
  (Sw_big a0).bind fun y =>
 bif y.fst.fst then some ((true, ()), ())
 else
  (Ss_DrawCutTrack a0).bind fun y =>
   (Si_CutTrack y.fst.fst y.fst.snd.fst y.fst.snd.snd.fst).bind fun y_1 =>
    (Ss_CutTrack y.fst.fst y.fst.snd.fst y.fst.snd.snd.fst).bind fun y_2 =>
     bif !y_1.fst.snd.fst == y_2.fst.snd.fst then some ((false, ()), ())
     else
      bif !y_1.fst.snd.fst then some (((↑(List.length y_1.fst.fst) : Int) == 0, ()), ())
      else
       (Sw_point a0 1).bind fun y_3 =>
        (getI y_3.fst.fst 0).bind fun y_4 =>
         (getI y_3.fst.fst 0).bind fun y_5 =>
          (Si_PositionAt y.fst.fst y_5).bind fun y_6 =>
           (getI y_3.fst.fst 0).bind fun y_7 =>
            (getI y_3.fst.fst 0).bind fun y_8 =>
             (Si_PositionAt y_1.fst.fst y_8).bind fun y_9 =>
              (Si_SpeedOf y.fst.fst).bind fun y_10 =>
               (Si_SpeedOf y_1.fst.fst).bind fun y_11 =>
                bif y_6.fst.snd.fst then
                 bif y_9.fst.snd.fst then
                  (Sw_samePoint y_6.fst.fst y_9.fst.fst).bind fun y_12 =>
                   bif !y_12.fst.fst then some ((false, ()), ())
                   else
                    bif y_10.fst.snd.fst then
                     bif y_11.fst.snd.fst then
                      (Si_CompareRatios y_11.fst.fst y_10.fst.fst).bind fun y_13 =>
                       bif decide (y_13.fst.fst > 0) then some ((false, ()), ())
                       else
                        (getI y.fst.fst 0).bind fun y_14 =>
                         (getI y.fst.fst 0).bind fun y_15 =>
                          (Si_CutTrack y.fst.fst y_15.fst y.fst.snd.fst).bind fun y =>
                           (Si_JoinTracks y.fst.fst y_1.fst.fst).bind fun y_16 =>
                            (getI y_3.fst.fst 0).bind fun y_17 =>
                             (getI y_3.fst.fst 0).bind fun y_18 =>
                              (Si_PositionAt y_16.fst.fst y_18).bind fun y_19 =>
                               bif !y.fst.snd.fst then some ((true, ()), ())
                               else
                                bif !y_16.fst.snd.fst then some ((true, ()), ())
                                else
                                 bif !y_19.fst.snd.fst then some ((true, ()), ())
                                 else
                                  bif !y_6.fst.snd.fst then some ((true, ()), ())
                                  else (Sw_samePoint y_6.fst.fst y_19.fst.fst).bind fun y => some ((y.fst.fst, ()), ())
                     else
                      (getI y.fst.fst 0).bind fun y_13 =>
                       (getI y.fst.fst 0).bind fun y_14 =>
                        (Si_CutTrack y.fst.fst y_14.fst y.fst.snd.fst).bind fun y =>
                         (Si_JoinTracks y.fst.fst y_1.fst.fst).bind fun y_15 =>
                          (getI y_3.fst.fst 0).bind fun y_16 =>
                           (getI y_3.fst.fst 0).bind fun y_17 =>
                            (Si_PositionAt y_15.fst.fst y_17).bind fun y_18 =>
                             bif !y.fst.snd.fst then some ((true, ()), ())
                             else
                              bif !y_15.fst.snd.fst then some ((true, ()), ())
                              else
                               bif !y_18.fst.snd.fst then some ((true, ()), ())
                               else
                                bif !y_6.fst.snd.fst then some ((true, ()), ())
                                else (Sw_samePoint y_6.fst.fst y_18.fst.fst).bind fun y => some ((y.fst.fst, ()), ())
                    else
                     (getI y.fst.fst 0).bind fun y_13 =>
                      (getI y.fst.fst 0).bind fun y_14 =>
                       (Si_CutTrack y.fst.fst y_14.fst y.fst.snd.fst).bind fun y =>
                        (Si_JoinTracks y.fst.fst y_1.fst.fst).bind fun y_15 =>
                         (getI y_3.fst.fst 0).bind fun y_16 =>
                          (getI y_3.fst.fst 0).bind fun y_17 =>
                           (Si_PositionAt y_15.fst.fst y_17).bind fun y_18 =>
                            bif !y.fst.snd.fst then some ((true, ()), ())
                            else
                             bif !y_15.fst.snd.fst then some ((true, ()), ())
                             else
                              bif !y_18.fst.snd.fst then some ((true, ()), ())
                              else
                               bif !y_6.fst.snd.fst then some ((true, ()), ())
                               else (Sw_samePoint y_6.fst.fst y_18.fst.fst).bind fun y => some ((y.fst.fst, ()), ())
                 else
                  bif y_10.fst.snd.fst then
                   bif y_11.fst.snd.fst then
                    (Si_CompareRatios y_11.fst.fst y_10.fst.fst).bind fun y_12 =>
                     bif decide (y_12.fst.fst > 0) then some ((false, ()), ())
                     else
                      (getI y.fst.fst 0).bind fun y_13 =>
                       (getI y.fst.fst 0).bind fun y_14 =>
                        (Si_CutTrack y.fst.fst y_14.fst y.fst.snd.fst).bind fun y =>
                         (Si_JoinTracks y.fst.fst y_1.fst.fst).bind fun y_15 =>
                          (getI y_3.fst.fst 0).bind fun y_16 =>
                           (getI y_3.fst.fst 0).bind fun y_17 =>
                            (Si_PositionAt y_15.fst.fst y_17).bind fun y_18 =>
                             bif !y.fst.snd.fst then some ((true, ()), ())
                             else
                              bif !y_15.fst.snd.fst then some ((true, ()), ())
                              else
                               bif !y_18.fst.snd.fst then some ((true, ()), ())
                               else
                                bif !y_6.fst.snd.fst then some ((true, ()), ())
                                else (Sw_samePoint y_6.fst.fst y_18.fst.fst).bind fun y => some ((y.fst.fst, ()), ())
                   else
                    (getI y.fst.fst 0).bind fun y_12 =>
                     (getI y.fst.fst 0).bind fun y_13 =>
                      (Si_CutTrack y.fst.fst y_13.fst y.fst.snd.fst).bind fun y =>
                       (Si_JoinTracks y.fst.fst y_1.fst.fst).bind fun y_14 =>
                        (getI y_3.fst.fst 0).bind fun y_15 =>
                         (getI y_3.fst.fst 0).bind fun y_16 =>
                          (Si_PositionAt y_14.fst.fst y_16).bind fun y_17 =>
                           bif !y.fst.snd.fst then some ((true, ()), ())
                           else
                            bif !y_14.fst.snd.fst then some ((true, ()), ())
                            else
                             bif !y_17.fst.snd.fst then some ((true, ()), ())
                             else
                              bif !y_6.fst.snd.fst then some ((true, ()), ())
                              else (Sw_samePoint y_6.fst.fst y_17.fst.fst).bind fun y => some ((y.fst.fst, ()), ())
                  else
                   (getI y.fst.fst 0).bind fun y_12 =>
                    (getI y.fst.fst 0).bind fun y_13 =>
                     (Si_CutTrack y.fst.fst y_13.fst y.fst.snd.fst).bind fun y =>
                      (Si_JoinTracks y.fst.fst y_1.fst.fst).bind fun y_14 =>
                       (getI y_3.fst.fst 0).bind fun y_15 =>
                        (getI y_3.fst.fst 0).bind fun y_16 =>
                         (Si_PositionAt y_14.fst.fst y_16).bind fun y_17 =>
                          bif !y.fst.snd.fst then some ((true, ()), ())
                          else
                           bif !y_14.fst.snd.fst then some ((true, ()), ())
                           else
                            bif !y_17.fst.snd.fst then some ((true, ()), ())
                            else
                             bif !y_6.fst.snd.fst then some ((true, ()), ())
                             else (Sw_samePoint y_6.fst.fst y_17.fst.fst).bind fun y => some ((y.fst.fst, ()), ())
                else
                 bif y_10.fst.snd.fst then
                  bif y_11.fst.snd.fst then
                   (Si_CompareRatios y_11.fst.fst y_10.fst.fst).bind fun y_12 =>
                    bif decide (y_12.fst.fst > 0) then some ((false, ()), ())
                    else
                     (getI y.fst.fst 0).bind fun y_13 =>
                      (getI y.fst.fst 0).bind fun y_14 =>
                       (Si_CutTrack y.fst.fst y_14.fst y.fst.snd.fst).bind fun y =>
                        (Si_JoinTracks y.fst.fst y_1.fst.fst).bind fun y_15 =>
                         (getI y_3.fst.fst 0).bind fun y_16 =>
                          (getI y_3.fst.fst 0).bind fun y_17 =>
                           (Si_PositionAt y_15.fst.fst y_17).bind fun y_18 =>
                            bif !y.fst.snd.fst then some ((true, ()), ())
                            else
                             bif !y_15.fst.snd.fst then some ((true, ()), ())
                             else
                              bif !y_18.fst.snd.fst then some ((true, ()), ())
                              else
                               bif !y_6.fst.snd.fst then some ((true, ()), ())
                               else (Sw_samePoint y_6.fst.fst y_18.fst.fst).bind fun y => some ((y.fst.fst, ()), ())
                  else
                   (getI y.fst.fst 0).bind fun y_12 =>
                    (getI y.fst.fst 0).bind fun y_13 =>
                     (Si_CutTrack y.fst.fst y_13.fst y.fst.snd.fst).bind fun y =>
                      (Si_JoinTracks y.fst.fst y_1.fst.fst).bind fun y_14 =>
                       (getI y_3.fst.fst 0).bind fun y_15 =>
                        (getI y_3.fst.fst 0).bind fun y_16 =>
                         (Si_PositionAt y_14.fst.fst y_16).bind fun y_17 =>
                          bif !y.fst.snd.fst then some ((true, ()), ())
                          else
                           bif !y_14.fst.snd.fst then some ((true, ()), ())
                           else
                            bif !y_17.fst.snd.fst then some ((true, ()), ())
                            else
                             bif !y_6.fst.snd.fst then some ((true, ()), ())
                             else (Sw_samePoint y_6.fst.fst y_17.fst.fst).bind fun y => some ((y.fst.fst, ()), ())
                 else
                  (getI y.fst.fst 0).bind fun y_12 =>
                   (getI y.fst.fst 0).bind fun y_13 =>
                    (Si_CutTrack y.fst.fst y_13.fst y.fst.snd.fst).bind fun y =>
                     (Si_JoinTracks y.fst.fst y_1.fst.fst).bind fun y_14 =>
                      (getI y_3.fst.fst 0).bind fun y_15 =>
                       (getI y_3.fst.fst 0).bind fun y_16 =>
                        (Si_PositionAt y_14.fst.fst y_16).bind fun y_17 =>
                         bif !y.fst.snd.fst then some ((true, ()), ())
                         else
                          bif !y_14.fst.snd.fst then some ((true, ()), ())
                          else
                           bif !y_17.fst.snd.fst then some ((true, ()), ())
                           else
                            bif !y_6.fst.snd.fst then some ((true, ()), ())
                            else (Sw_samePoint y_6.fst.fst y_17.fst.fst).bind fun y => some ((y.fst.fst, ()), ()) := by kernel_rfl


end Go.Proofs.Ytkanidldnnfloaa.P.It
