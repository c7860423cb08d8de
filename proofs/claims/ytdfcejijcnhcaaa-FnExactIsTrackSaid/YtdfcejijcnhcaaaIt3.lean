/- A part of the proof: It3. No conditions. -/
import Derived.Test.YtdfcejijcnhcaaaIt2
import Derived.Test.YtdfcejijcnhcaaaAm36
import Derived.Test.YtdfcejijcnhcaaaChecked
import Derived.KernelRfl
set_option linter.unusedVariables false
namespace Go.Proofs.Ytdfcejijcnhcaaa.It
open Am
noncomputable def E13 : Env := mkEnv C tab0 [0, 1, 2, 3] 12 (fun (x : Nat) => none) [(ty22, Mode.ro), (ty3, Mode.ro)]
noncomputable def K13 := endK C [(ty22, Mode.ro), (ty3, Mode.ro)] [(ty3, 0)] [RV.tmp 4]
noncomputable def S13 (a0 : List ((Int × Int) × (Int × Int) × Int × Int)) (a1 : Int) : Option ((Int × PUnit) × PUnit) := F13.sem (a0, a1, ())
theorem S13_eq (a0 : List ((Int × Int) × (Int × Int) × Int × Int)) (a1 : Int) : S13 a0 a1 =
  bif decide (IntKind.i64.wrap (a1 - (↑a0.length : Int)) < 0) then some ((-1, ()), ())
else some ((IntKind.i64.wrap (a1 - (↑a0.length : Int)), ()), ()) := by kernel_rfl
noncomputable def E23 : Env := mkEnv C tab13 [0, 1, 2, 3, 4, 7] 11 (fun (x : Nat) => none) [(ty34, Mode.ro)]
noncomputable def K23 := endK C [(ty34, Mode.ro)] [(ty36, 0)] [RV.cell 2 36]
noncomputable def S23 (a0 : Int × Int) : Option (((Int × Int) × PUnit) × PUnit) := F23.sem (a0, ())
theorem S23_eq (a0 : Int × Int) : S23 a0 =
  some (((a0.fst, a0.snd), ()), ()) := by kernel_rfl
noncomputable def E63 : Env := mkEnv C tab23 [0, 1, 2, 3, 4, 8, 12] 17 (fun (x : Nat) => none) [(ty96, Mode.ro)]
noncomputable def K63 := endK C [(ty96, Mode.ro)] [(ty77, 0)] [RV.cell 2 77]
noncomputable def S63 (a0 : (Int × Int) × (Int × Int) × Int × Int) : Option ((((Int × Int) × (Int × Int) × Int × Int) × PUnit) × PUnit) := F63.sem (a0, ())
theorem S63_eq (a0 : (Int × Int) × (Int × Int) × Int × Int) : S63 a0 =
  (S23 a0.fst).bind fun (y : ((Int × Int) × PUnit) × PUnit) =>
  (S23 a0.snd.fst).bind fun (y_1 : ((Int × Int) × PUnit) × PUnit) =>
    (S23 a0.snd.snd).bind fun (y_2 : ((Int × Int) × PUnit) × PUnit) =>
      some (((y.fst.fst, y_1.fst.fst, y_2.fst.fst), ()), ()) := by kernel_rfl
noncomputable def E15 : Env := mkEnv C tab63 [0, 1, 3, 4, 14, 16, 18] 23 (fun (k : Nat) => bif k == 1000003 then some 25 else none) [(ty22, Mode.ro)]
noncomputable def K15 := endK C [(ty22, Mode.ro)] [(ty25, 1)] [RV.tmp 2]
noncomputable def L15_3 (x0 : List ((Int × Int) × (Int × Int) × Int × Int)) (x3 : List ((Int × Int) × (Int × Int) × Int × Int)) (x4 : Int) : Option ((List ((Int × Int) × (Int × Int) × Int × Int) × PUnit) × PUnit) := loopAt E15 [1, 1, 0, 1, 0] (Try.f15.body.getD .skip) K15 [V.d none 0 ty22 x0, V.dead, V.dead, V.d none (ty77.depth + 1) (Ty.slice 77 ty77) x3,
  V.d none 0 (Ty.int IntKind.i64) x4, V.dead, V.dead, V.dead, V.dead, V.dead, V.dead, V.dead, V.dead, V.dead, V.dead,
  V.dead, V.dead, V.dead, V.dead, V.dead, V.dead, V.dead, V.dead]
theorem L15_3_eq (x0 : List ((Int × Int) × (Int × Int) × Int × Int)) (x3 : List ((Int × Int) × (Int × Int) × Int × Int)) (x4 : Int) : L15_3 x0 x3 x4 =
  bif decide (x4 < (↑x0.length : Int)) then
  (getI x0 x4).bind fun (y : (Int × Int) × (Int × Int) × Int × Int) =>
    (S63 y).bind fun (y : (((Int × Int) × (Int × Int) × Int × Int) × PUnit) × PUnit) =>
      (getI x3 x4).bind fun (y_1 : (Int × Int) × (Int × Int) × Int × Int) =>
        (getI x3 x4).bind fun (y_2 : (Int × Int) × (Int × Int) × Int × Int) =>
          (getI x3 x4).bind fun (y_3 : (Int × Int) × (Int × Int) × Int × Int) =>
            L15_3 x0 (x3.set x4.toNat y.fst.fst) (IntKind.i64.wrap (x4 + 1))
else some ((x3, ()), ()) := (loopAt_eq _ _ _ _ _).trans (by kernel_rfl)
noncomputable def S15 (a0 : List ((Int × Int) × (Int × Int) × Int × Int)) : Option ((List ((Int × Int) × (Int × Int) × Int × Int) × PUnit) × PUnit) := F15.sem (a0, ())
theorem S15_eq (a0 : List ((Int × Int) × (Int × Int) × Int × Int)) : S15 a0 =
  bif
    decide (0 ≤ (↑a0.length : Int)) && decide ((↑a0.length : Int) ≤ (↑a0.length : Int)) &&
        decide ((↑a0.length : Int) * (↑(C.bytes 77) : Int) ≤ 140737488355328) &&
      decide ((↑a0.length : Int) ≤ 9223372036854775807) then
  L15_3 a0 (List.replicate (↑a0.length : Int).toNat ty77.zero) 0
else none := by kernel_rfl
noncomputable def E62 : Env := mkEnv C tab15 [0, 1, 2, 3, 4, 5] 15 (fun (x : Nat) => none) [(ty3, Mode.ro), (ty3, Mode.ro), (ty3, Mode.ro)]
noncomputable def K62 := endK C [(ty3, Mode.ro), (ty3, Mode.ro), (ty3, Mode.ro)] [(ty4, 0)] [RV.tmp 6]
noncomputable def S62 (a0 : Int) (a1 : Int) (a2 : Int) : Option ((Bool × PUnit) × PUnit) := F62.sem (a0, a1, a2, ())
theorem S62_eq (a0 : Int) (a1 : Int) (a2 : Int) : S62 a0 a1 a2 =
  bif decide (a0 ≥ a1) then some ((decide (a0 ≤ a2), ()), ()) else some ((false, ()), ()) := by kernel_rfl
noncomputable def E103 : Env := mkEnv C tab62 [0, 1] 5 (fun (x : Nat) => none) [(ty3, Mode.ro)]
noncomputable def K103 := endK C [(ty3, Mode.ro)] [(ty4, 0)] [RV.tmp 2]
noncomputable def S103 (a0 : Int) : Option ((Bool × PUnit) × PUnit) := F103.sem (a0, ())
theorem S103_eq (a0 : Int) : S103 a0 =
  (S62 a0 (-400000000) 400000000).bind fun (y : (Bool × PUnit) × PUnit) => some ((y.fst.fst, ()), ()) := by kernel_rfl
noncomputable def E124 : Env := mkEnv C tab103 [0, 1] 7 (fun (x : Nat) => none) [(ty3, Mode.ro)]
noncomputable def K124 := endK C [(ty3, Mode.ro)] [(ty3, 0)] [RV.tmp 2]
noncomputable def S124 (a0 : Int) : Option ((Int × PUnit) × PUnit) := F124.sem (a0, ())
theorem S124_eq (a0 : Int) : S124 a0 =
  some
  ((bif true then if a0 < IntKind.i64.wrap (0 - a0) then IntKind.i64.wrap (0 - a0) else a0
      else if IntKind.i64.wrap (0 - a0) < a0 then IntKind.i64.wrap (0 - a0) else a0,
      ()),
    ()) := by kernel_rfl
noncomputable def E104 : Env := mkEnv C tab124 [0, 1, 2, 3] 21 (fun (k : Nat) => bif k == 1000003 then some 3 else none)
  [(ty3, Mode.ro), (ty3, Mode.ro)]
noncomputable def K104 := endK C [(ty3, Mode.ro), (ty3, Mode.ro)] [(ty3, 0)] [RV.tmp 4]
noncomputable def L104_3 (x0 : Int) (x1 : Int) : Option ((Int × PUnit) × PUnit) := loopAt E104 [1, 1, 0, 0] (Try.f104.body.getD .skip) K104 [V.d none 0 ty3 x0, V.d none 0 ty3 x1, V.dead, V.dead, V.dead, V.dead, V.dead, V.dead, V.dead, V.dead, V.dead, V.dead,
  V.dead, V.dead, V.dead, V.dead, V.dead, V.dead, V.dead, V.dead, V.dead]
theorem L104_3_eq (x0 : Int) (x1 : Int) : L104_3 x0 x1 =
  bif x1 != 0 then bif x1 != 0 then L104_3 x1 (x0.tmod x1) else none
else (S124 x0).bind fun (y : (Int × PUnit) × PUnit) => some ((y.fst.fst, ()), ()) := (loopAt_eq _ _ _ _ _).trans (by kernel_rfl)
noncomputable def S104 (a0 : Int) (a1 : Int) : Option ((Int × PUnit) × PUnit) := F104.sem (a0, a1, ())
theorem S104_eq (a0 : Int) (a1 : Int) : S104 a0 a1 =
  (S103 a0).bind fun (y : (Bool × PUnit) × PUnit) =>
  bif !y.fst.fst then some ((0, ()), ())
  else (S103 a1).bind fun (y : (Bool × PUnit) × PUnit) => bif !y.fst.fst then some ((0, ()), ()) else L104_3 a0 a1 := by kernel_rfl
noncomputable def E60 : Env := mkEnv C tab104 [0, 1, 3, 7, 12, 14] 19 (fun (x : Nat) => none) [(ty36, Mode.ro)]
noncomputable def K60 := endK C [(ty36, Mode.ro)] [(ty4, 0)] [RV.tmp 2]
noncomputable def S60 (a0 : Int × Int) : Option ((Bool × PUnit) × PUnit) := F60.sem (a0, ())
theorem S60_eq (a0 : Int × Int) : S60 a0 =
  (S62 a0.snd 1 400000000).bind fun (y : (Bool × PUnit) × PUnit) =>
  bif y.fst.fst then
    (S103 a0.fst).bind fun (y : (Bool × PUnit) × PUnit) =>
      bif y.fst.fst then (S104 a0.fst a0.snd).bind fun (y : (Int × PUnit) × PUnit) => some ((y.fst.fst == 1, ()), ())
      else some ((false, ()), ())
  else some ((false, ()), ()) := by kernel_rfl
noncomputable def E61 : Env := mkEnv C tab60 [0, 1, 2, 3, 5, 7, 10, 12] 16 (fun (x : Nat) => none) [(ty36, Mode.ro), (ty36, Mode.ro)]
noncomputable def K61 := endK C [(ty36, Mode.ro), (ty36, Mode.ro)] [(ty4, 0)] [RV.tmp 4]
noncomputable def S61 (a0 : Int × Int) (a1 : Int × Int) : Option ((Bool × PUnit) × PUnit) := F61.sem (a0, a1, ())
theorem S61_eq (a0 : Int × Int) (a1 : Int × Int) : S61 a0 a1 =
  some ((decide (IntKind.i64.wrap (a0.fst * a1.snd) < IntKind.i64.wrap (a1.fst * a0.snd)), ()), ()) := by kernel_rfl
noncomputable def E14 : Env := mkEnv C tab61 [0, 1, 3, 10, 12, 13, 18, 20, 21, 27, 29, 30, 39, 42, 43, 45, 47, 48] 57
  (fun (k : Nat) => bif k == 1000002 then some 9 else none) [(ty25, Mode.ro)]
noncomputable def K14 := endK C [(ty25, Mode.ro)] [(ty4, 0)] [RV.tmp 2]
noncomputable def L14_2 (x0 : List ((Int × Int) × (Int × Int) × Int × Int)) (x3 : Int) : Option ((Bool × PUnit) × PUnit) := loopAt E14 [1, 0, 1, 0] (Try.f14.body.getD .skip) K14 [V.d none 0 ty25 x0, V.dead, V.dead, V.d none 0 (Ty.int IntKind.i64) x3, V.dead, V.dead, V.dead, V.dead, V.dead, V.dead,
  V.dead, V.dead, V.dead, V.dead, V.dead, V.dead, V.dead, V.dead, V.dead, V.dead, V.dead, V.dead, V.dead, V.dead,
  V.dead, V.dead, V.dead, V.dead, V.dead, V.dead, V.dead, V.dead, V.dead, V.dead, V.dead, V.dead, V.dead, V.dead,
  V.dead, V.dead, V.dead, V.dead, V.dead, V.dead, V.dead, V.dead, V.dead, V.dead, V.dead, V.dead, V.dead, V.dead,
  V.dead, V.dead, V.dead, V.dead, V.dead]
theorem L14_2_eq (x0 : List ((Int × Int) × (Int × Int) × Int × Int)) (x3 : Int) : L14_2 x0 x3 =
  bif decide (x3 < (↑x0.length : Int)) then
  (getI x0 x3).bind fun (y : (Int × Int) × (Int × Int) × Int × Int) =>
    (S60 y.fst).bind fun (y : (Bool × PUnit) × PUnit) =>
      bif !y.fst.fst then some ((false, ()), ())
      else
        (getI x0 x3).bind fun (y : (Int × Int) × (Int × Int) × Int × Int) =>
          (S60 y.snd.fst).bind fun (y : (Bool × PUnit) × PUnit) =>
            bif !y.fst.fst then some ((false, ()), ())
            else
              (getI x0 x3).bind fun (y : (Int × Int) × (Int × Int) × Int × Int) =>
                (S60 y.snd.snd).bind fun (y : (Bool × PUnit) × PUnit) =>
                  bif !y.fst.fst then some ((false, ()), ())
                  else
                    bif decide (x3 > 0) then
                      (getI x0 (IntKind.i64.wrap (x3 - 1))).bind fun (y : (Int × Int) × (Int × Int) × Int × Int) =>
                        (getI x0 x3).bind fun (y_1 : (Int × Int) × (Int × Int) × Int × Int) =>
                          (S61 y.fst y_1.fst).bind fun (y : (Bool × PUnit) × PUnit) =>
                            bif !y.fst.fst then some ((false, ()), ()) else L14_2 x0 (IntKind.i64.wrap (x3 + 1))
                    else L14_2 x0 (IntKind.i64.wrap (x3 + 1))
else (S62 (↑x0.length : Int) 1 6).bind fun (y : (Bool × PUnit) × PUnit) => some ((y.fst.fst, ()), ()) := (loopAt_eq _ _ _ _ _).trans (by kernel_rfl)
noncomputable def S14 (a0 : List ((Int × Int) × (Int × Int) × Int × Int)) : Option ((Bool × PUnit) × PUnit) := F14.sem (a0, ())
theorem S14_eq (a0 : List ((Int × Int) × (Int × Int) × Int × Int)) : S14 a0 =
  L14_2 a0 0 := by kernel_rfl
noncomputable def E105 : Env := mkEnv C tab14 [0, 1] 9 (fun (x : Nat) => none) [(ty3, Mode.ro)]
noncomputable def K105 := endK C [(ty3, Mode.ro)] [(ty4, 0)] [RV.tmp 2]
noncomputable def S105 (a0 : Int) : Option ((Bool × PUnit) × PUnit) := F105.sem (a0, ())
theorem S105_eq (a0 : Int) : S105 a0 =
  bif decide (a0 ≥ -400000000) then some ((decide (a0 ≤ 400000000), ()), ()) else some ((false, ()), ()) := by kernel_rfl
noncomputable def E71 : Env := mkEnv C tab105 [0, 1] 8 (fun (x : Nat) => none) [(ty3, Mode.ro)]
noncomputable def K71 := endK C [(ty3, Mode.ro)] [(ty3, 0)] [RV.tmp 2]
noncomputable def S71 (a0 : Int) : Option ((Int × PUnit) × PUnit) := F71.sem (a0, ())
theorem S71_eq (a0 : Int) : S71 a0 =
  bif decide (a0 < 0) then some ((IntKind.i64.wrap (0 - a0), ()), ()) else some ((a0, ()), ()) := by kernel_rfl
noncomputable def E114 : Env := mkEnv C tab71 [0, 1, 2, 3] 16 (fun (k : Nat) => bif k == 1000002 then some 3 else none) [(ty3, Mode.ro), (ty3, Mode.ro)]
noncomputable def K114 := endK C [(ty3, Mode.ro), (ty3, Mode.ro)] [(ty3, 0)] [RV.tmp 4]
noncomputable def L114_2 (x0 : Int) (x1 : Int) : Option ((Int × PUnit) × PUnit) := loopAt E114 [1, 1, 0, 0] (Try.f114.body.getD .skip) K114 [V.d none 0 ty3 x0, V.d none 0 ty3 x1, V.dead, V.dead, V.dead, V.dead, V.dead, V.dead, V.dead, V.dead, V.dead, V.dead,
  V.dead, V.dead, V.dead, V.dead]
theorem L114_2_eq (x0 : Int) (x1 : Int) : L114_2 x0 x1 =
  bif x1 != 0 then bif x1 != 0 then L114_2 x1 (x0.tmod x1) else none else some ((x0, ()), ()) := (loopAt_eq _ _ _ _ _).trans (by kernel_rfl)
noncomputable def S114 (a0 : Int) (a1 : Int) : Option ((Int × PUnit) × PUnit) := F114.sem (a0, a1, ())
theorem S114_eq (a0 : Int) (a1 : Int) : S114 a0 a1 =
  (S71 a0).bind fun (y : (Int × PUnit) × PUnit) =>
  (S71 a1).bind fun (y_1 : (Int × PUnit) × PUnit) => L114_2 y.fst.fst y_1.fst.fst := by kernel_rfl
noncomputable def E106 : Env := mkEnv C tab114 [0, 1, 2, 3] 16 (fun (x : Nat) => none) [(ty3, Mode.ro), (ty3, Mode.ro)]
noncomputable def K106 := endK C [(ty3, Mode.ro), (ty3, Mode.ro)] [(ty3, 0)] [RV.tmp 4]
noncomputable def S106 (a0 : Int) (a1 : Int) : Option ((Int × PUnit) × PUnit) := F106.sem (a0, a1, ())
theorem S106_eq (a0 : Int) (a1 : Int) : S106 a0 a1 =
  (S105 a0).bind fun (y : (Bool × PUnit) × PUnit) =>
  bif !y.fst.fst then some ((0, ()), ())
  else
    (S105 a1).bind fun (y : (Bool × PUnit) × PUnit) =>
      bif !y.fst.fst then some ((0, ()), ())
      else (S114 a0 a1).bind fun (y : (Int × PUnit) × PUnit) => some ((y.fst.fst, ()), ()) := by kernel_rfl
noncomputable def E64 : Env := mkEnv C tab106 [0, 1, 3, 7, 12, 17, 19] 24 (fun (x : Nat) => none) [(ty36, Mode.ro)]
noncomputable def K64 := endK C [(ty36, Mode.ro)] [(ty4, 0)] [RV.tmp 2]
noncomputable def S64 (a0 : Int × Int) : Option ((Bool × PUnit) × PUnit) := F64.sem (a0, ())
theorem S64_eq (a0 : Int × Int) : S64 a0 =
  bif decide (a0.snd ≥ 1) then
  bif decide (a0.snd ≤ 400000000) then
    (S105 a0.fst).bind fun (y : (Bool × PUnit) × PUnit) =>
      bif y.fst.fst then (S106 a0.fst a0.snd).bind fun (y : (Int × PUnit) × PUnit) => some ((y.fst.fst == 1, ()), ())
      else some ((false, ()), ())
  else some ((false, ()), ())
else some ((false, ()), ()) := by kernel_rfl
noncomputable def E51 : Env := mkEnv C tab64 [0, 1, 2, 3, 5, 6, 15, 17, 20, 22] 31 (fun (x : Nat) => none) [(ty36, Mode.ro), (ty36, Mode.ro)]
noncomputable def K51 := endK C [(ty36, Mode.ro), (ty36, Mode.ro)] [(ty3, 0)] [RV.tmp 4]
noncomputable def S51 (a0 : Int × Int) (a1 : Int × Int) : Option ((Int × PUnit) × PUnit) := F51.sem (a0, a1, ())
theorem S51_eq (a0 : Int × Int) (a1 : Int × Int) : S51 a0 a1 =
  (S64 a0).bind fun (y : (Bool × PUnit) × PUnit) =>
  bif !y.fst.fst then some ((2, ()), ())
  else
    (S64 a1).bind fun (y : (Bool × PUnit) × PUnit) =>
      bif !y.fst.fst then some ((2, ()), ())
      else
        bif decide (IntKind.i64.wrap (a0.fst * a1.snd) < IntKind.i64.wrap (a1.fst * a0.snd)) then some ((-1, ()), ())
        else
          bif decide (IntKind.i64.wrap (a0.fst * a1.snd) > IntKind.i64.wrap (a1.fst * a0.snd)) then some ((1, ()), ())
          else some ((0, ()), ()) := by kernel_rfl
noncomputable def E16 : Env := mkEnv C tab51 [0, 1, 3, 4, 13, 18, 20, 25, 31, 39, 42, 43, 45] 51
  (fun (k : Nat) => bif k == 1000004 then some 57345 else none) [(ty25, Mode.ro)]
noncomputable def K16 := endK C [(ty25, Mode.ro)] [(ty4, 0)] [RV.tmp 2]
noncomputable def L16_4 (x0 : List ((Int × Int) × (Int × Int) × Int × Int)) (x13 : List ((Int × Int) × (Int × Int) × Int × Int)) (x14 : Int) (x15 : Int) : Option ((Bool × PUnit) × PUnit) := loopAt E16 [1, 1, 0, 1, 0] (Try.f16.body.getD .skip) K16 [V.d none 0 ty25 x0, V.dead, V.dead, V.dead, V.dead, V.dead, V.dead, V.dead, V.dead, V.dead, V.dead, V.dead, V.dead,
  V.d none 0 ty25 x13, V.d none 0 (Ty.int IntKind.i64) x14, V.d none 0 (Ty.int IntKind.i64) x15, V.dead, V.dead, V.dead,
  V.dead, V.dead, V.dead, V.dead, V.dead, V.dead, V.dead, V.dead, V.dead, V.dead, V.dead, V.dead, V.dead, V.dead,
  V.dead, V.dead, V.dead, V.dead, V.dead, V.dead, V.dead, V.dead, V.dead, V.dead, V.dead, V.dead, V.dead, V.dead,
  V.dead, V.dead, V.dead, V.dead]
theorem L16_4_eq (x0 : List ((Int × Int) × (Int × Int) × Int × Int)) (x13 : List ((Int × Int) × (Int × Int) × Int × Int)) (x14 : Int) (x15 : Int) : L16_4 x0 x13 x14 x15 =
  bif decide (x15 < x14) then
  (getI x13 x15).bind fun (y : (Int × Int) × (Int × Int) × Int × Int) =>
    (S64 y.fst).bind fun (y_1 : (Bool × PUnit) × PUnit) =>
      bif !y_1.fst.fst then some ((false, ()), ())
      else
        (S64 y.snd.fst).bind fun (y_2 : (Bool × PUnit) × PUnit) =>
          bif !y_2.fst.fst then some ((false, ()), ())
          else
            (S64 y.snd.snd).bind fun (y_3 : (Bool × PUnit) × PUnit) =>
              bif !y_3.fst.fst then some ((false, ()), ())
              else
                bif decide (x15 > 0) then
                  (getI x0 (IntKind.i64.wrap (x15 - 1))).bind fun (y_4 : (Int × Int) × (Int × Int) × Int × Int) =>
                    (S51 y_4.fst y.fst).bind fun (y : (Int × PUnit) × PUnit) =>
                      bif y.fst.fst != -1 then some ((false, ()), ()) else L16_4 x0 x13 x14 (IntKind.i64.wrap (x15 + 1))
                else L16_4 x0 x13 x14 (IntKind.i64.wrap (x15 + 1))
else some ((true, ()), ()) := (loopAt_eq _ _ _ _ _).trans (by kernel_rfl)
noncomputable def S16 (a0 : List ((Int × Int) × (Int × Int) × Int × Int)) : Option ((Bool × PUnit) × PUnit) := F16.sem (a0, ())
theorem S16_eq (a0 : List ((Int × Int) × (Int × Int) × Int × Int)) : S16 a0 =
  bif decide ((↑a0.length : Int) < 1) then some ((false, ()), ())
else bif decide ((↑a0.length : Int) > 6) then some ((false, ()), ()) else L16_4 a0 a0 (↑a0.length : Int) 0 := by kernel_rfl
noncomputable def E27 : Env := mkEnv C tab16 [0, 1, 2, 3, 5, 7, 10, 12] 15 (fun (x : Nat) => none) [(ty36, Mode.ro), (ty36, Mode.ro)]
noncomputable def K27 := endK C [(ty36, Mode.ro), (ty36, Mode.ro)] [(ty4, 0)] [RV.tmp 4]
noncomputable def S27 (a0 : Int × Int) (a1 : Int × Int) : Option ((Bool × PUnit) × PUnit) := F27.sem (a0, a1, ())
theorem S27_eq (a0 : Int × Int) (a1 : Int × Int) : S27 a0 a1 =
  bif a0.fst != a1.fst then some ((false, ()), ())
else bif a0.snd != a1.snd then some ((false, ()), ()) else some ((true, ()), ()) := by kernel_rfl
noncomputable def E65 : Env := mkEnv C tab27 [0, 1, 2, 3, 5, 7, 11, 13, 17, 19] 23 (fun (x : Nat) => none) [(ty77, Mode.ro), (ty77, Mode.ro)]
noncomputable def K65 := endK C [(ty77, Mode.ro), (ty77, Mode.ro)] [(ty4, 0)] [RV.tmp 4]
noncomputable def S65 (a0 : (Int × Int) × (Int × Int) × Int × Int) (a1 : (Int × Int) × (Int × Int) × Int × Int) : Option ((Bool × PUnit) × PUnit) := F65.sem (a0, a1, ())
theorem S65_eq (a0 : (Int × Int) × (Int × Int) × Int × Int) (a1 : (Int × Int) × (Int × Int) × Int × Int) : S65 a0 a1 =
  (S27 a0.fst a1.fst).bind fun (y : (Bool × PUnit) × PUnit) =>
  bif !y.fst.fst then some ((false, ()), ())
  else
    (S27 a0.snd.fst a1.snd.fst).bind fun (y : (Bool × PUnit) × PUnit) =>
      bif !y.fst.fst then some ((false, ()), ())
      else
        (S27 a0.snd.snd a1.snd.snd).bind fun (y : (Bool × PUnit) × PUnit) =>
          bif !y.fst.fst then some ((false, ()), ()) else some ((true, ()), ()) := by kernel_rfl
noncomputable def E17 : Env := mkEnv C tab65 [0, 1, 2, 3, 5, 17, 19, 21, 23] 27 (fun (k : Nat) => bif k == 1000004 then some 35 else none)
  [(ty25, Mode.ro), (ty25, Mode.ro)]
noncomputable def K17 := endK C [(ty25, Mode.ro), (ty25, Mode.ro)] [(ty4, 0)] [RV.tmp 4]
noncomputable def L17_4 (x0 : List ((Int × Int) × (Int × Int) × Int × Int)) (x1 : List ((Int × Int) × (Int × Int) × Int × Int)) (x5 : Int) : Option ((Bool × PUnit) × PUnit) := loopAt E17 [1, 1, 0, 1, 0] (Try.f17.body.getD .skip) K17 [V.d none 0 ty25 x0, V.d none 0 ty25 x1, V.dead, V.dead, V.dead, V.d none 0 (Ty.int IntKind.i64) x5, V.dead, V.dead,
  V.dead, V.dead, V.dead, V.dead, V.dead, V.dead, V.dead, V.dead, V.dead, V.dead, V.dead, V.dead, V.dead, V.dead,
  V.dead, V.dead, V.dead, V.dead, V.dead]
theorem L17_4_eq (x0 : List ((Int × Int) × (Int × Int) × Int × Int)) (x1 : List ((Int × Int) × (Int × Int) × Int × Int)) (x5 : Int) : L17_4 x0 x1 x5 =
  bif decide (x5 < (↑x0.length : Int)) then
  (getI x0 x5).bind fun (y : (Int × Int) × (Int × Int) × Int × Int) =>
    (getI x1 x5).bind fun (y_1 : (Int × Int) × (Int × Int) × Int × Int) =>
      (S65 y y_1).bind fun (y : (Bool × PUnit) × PUnit) =>
        bif !y.fst.fst then some ((false, ()), ()) else L17_4 x0 x1 (IntKind.i64.wrap (x5 + 1))
else some ((true, ()), ()) := (loopAt_eq _ _ _ _ _).trans (by kernel_rfl)
noncomputable def S17 (a0 : List ((Int × Int) × (Int × Int) × Int × Int)) (a1 : List ((Int × Int) × (Int × Int) × Int × Int)) : Option ((Bool × PUnit) × PUnit) := F17.sem (a0, a1, ())
theorem S17_eq (a0 : List ((Int × Int) × (Int × Int) × Int × Int)) (a1 : List ((Int × Int) × (Int × Int) × Int × Int)) : S17 a0 a1 =
  bif (↑a0.length : Int) != (↑a1.length : Int) then some ((false, ()), ()) else L17_4 a0 a1 0 := by kernel_rfl
noncomputable def E3 : Env := mkEnv C tab17 [0, 1, 3, 4, 5, 6] 27 (fun (x : Nat) => none) [(ty22, Mode.ro)]
noncomputable def K3 := endK C [(ty22, Mode.ro)] [(ty4, 0)] [RV.tmp 2]
noncomputable def S3 (a0 : List ((Int × Int) × (Int × Int) × Int × Int)) : Option ((Bool × PUnit) × PUnit) := F3.sem (a0, ())
theorem S3_eq (a0 : List ((Int × Int) × (Int × Int) × Int × Int)) : S3 a0 =
  (S13 a0 1048576).bind fun (y : (Int × PUnit) × PUnit) =>
  bif decide (y.fst.fst < 0) then some ((true, ()), ())
  else
    (S15 a0).bind fun (y : (List ((Int × Int) × (Int × Int) × Int × Int) × PUnit) × PUnit) =>
      (S14 y.fst.fst).bind fun (y : (Bool × PUnit) × PUnit) =>
        (S15 a0).bind fun (y_1 : (List ((Int × Int) × (Int × Int) × Int × Int) × PUnit) × PUnit) =>
          (S16 y_1.fst.fst).bind fun (y_2 : (Bool × PUnit) × PUnit) =>
            bif !y_2.fst.fst == y.fst.fst then some ((false, ()), ())
            else
              (S15 a0).bind fun (y : (List ((Int × Int) × (Int × Int) × Int × Int) × PUnit) × PUnit) =>
                (S17 y_1.fst.fst y.fst.fst).bind fun (y : (Bool × PUnit) × PUnit) =>
                  bif !y.fst.fst then some ((false, ()), ()) else some ((true, ()), ()) := by kernel_rfl

end Go.Proofs.Ytdfcejijcnhcaaa.It
