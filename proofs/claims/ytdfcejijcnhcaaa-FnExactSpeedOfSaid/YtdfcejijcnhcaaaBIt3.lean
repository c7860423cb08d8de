/- A part of the proof: It3. No conditions. -/
import Derived.Test.YtdfcejijcnhcaaaBIt2
import Derived.Test.YtdfcejijcnhcaaaBAm36
import Derived.Test.YtdfcejijcnhcaaaChecked
import Derived.KernelRfl
set_option linter.unusedVariables false
namespace Go.Proofs.Ytdfcejijcnhcaaa.B.It
open Am
noncomputable def E13 : Env := mkEnv C tab0 [0, 1, 2, 3] 12 (fun (x : Nat) => none) (fun (x x_1 : Nat) => none) [(ty22, Mode.ro), (ty3, Mode.ro)]
noncomputable def K13 := endK C [(ty22, Mode.ro), (ty3, Mode.ro)] [(ty3, 0)] [RV.tmp 4]
noncomputable def S13 (a0 : List ((Int × Int) × (Int × Int) × Int × Int)) (a1 : Int) : Option ((Int × PUnit) × PUnit) := F13.sem (a0, a1, ())
theorem S13_eq (a0 : List ((Int × Int) × (Int × Int) × Int × Int)) (a1 : Int) : S13 a0 a1 =
  bif decide (IntKind.i64.wrap (a1 - (↑a0.length : Int)) < 0) then some ((-1, ()), ())
else some ((IntKind.i64.wrap (a1 - (↑a0.length : Int)), ()), ()) := by kernel_rfl
noncomputable def E23 : Env := mkEnv C tab13 [0, 1, 2, 3, 4, 7] 11 (fun (x : Nat) => none) (fun (x x_1 : Nat) => none) [(ty34, Mode.ro)]
noncomputable def K23 := endK C [(ty34, Mode.ro)] [(ty36, 0)] [RV.cell 2 36]
noncomputable def S23 (a0 : Int × Int) : Option (((Int × Int) × PUnit) × PUnit) := F23.sem (a0, ())
theorem S23_eq (a0 : Int × Int) : S23 a0 =
  some (((a0.fst, a0.snd), ()), ()) := by kernel_rfl
noncomputable def E63 : Env := mkEnv C tab23 [0, 1, 2, 3, 4, 8, 12] 17 (fun (x : Nat) => none) (fun (x x_1 : Nat) => none) [(ty96, Mode.ro)]
noncomputable def K63 := endK C [(ty96, Mode.ro)] [(ty77, 0)] [RV.cell 2 77]
noncomputable def S63 (a0 : (Int × Int) × (Int × Int) × Int × Int) : Option ((((Int × Int) × (Int × Int) × Int × Int) × PUnit) × PUnit) := F63.sem (a0, ())
theorem S63_eq (a0 : (Int × Int) × (Int × Int) × Int × Int) : S63 a0 =
  (S23 a0.fst).bind fun (y : ((Int × Int) × PUnit) × PUnit) =>
  (S23 a0.snd.fst).bind fun (y_1 : ((Int × Int) × PUnit) × PUnit) =>
    (S23 a0.snd.snd).bind fun (y_2 : ((Int × Int) × PUnit) × PUnit) =>
      some (((y.fst.fst, y_1.fst.fst, y_2.fst.fst), ()), ()) := by kernel_rfl
noncomputable def E15 : Env := mkEnv C tab63 [0, 1, 3, 4, 14, 16, 18] 23 (fun (k : Nat) => bif k == 1000003 then some 25 else none)
  (fun (x x_1 : Nat) => none) [(ty22, Mode.ro)]
noncomputable def K15 := endK C [(ty22, Mode.ro)] [(ty25, 1)] [RV.tmp 2]
noncomputable def L15_3 (x0 : List ((Int × Int) × (Int × Int) × Int × Int)) (x3 : List ((Int × Int) × (Int × Int) × Int × Int)) (x4 : Int) : Option ((List ((Int × Int) × (Int × Int) × Int × Int) × PUnit) × PUnit) := loopAt E15 [1, 1, 0, 1, 0] (Try.f15.body.getD .skip) K15 [V.d none 0 ty22 x0, V.dead, V.dead, V.d none (ty77.depth + 1) (Ty.slice 77 ty77) x3,
  V.d none 0 (Ty.int IntKind.i64) x4, V.dead, V.dead, V.dead, V.dead, V.dead, V.dead, V.dead, V.dead, V.dead, V.dead,
  V.dead, V.dead, V.dead, V.dead, V.dead, V.dead, V.dead, V.dead]
theorem L15_3_eq (x0 : List ((Int × Int) × (Int × Int) × Int × Int)) (x3 : List ((Int × Int) × (Int × Int) × Int × Int)) (x4 : Int) : L15_3 x0 x3 x4 =
  bif decide (x4 < (↑x0.length : Int)) then
  (getI x0 x4).bind fun (y : (Int × Int) × (Int × Int) × Int × Int) =>
    (S63 y).bind fun (y : (((Int × Int) × (Int × Int) × Int × Int) × PUnit) × PUnit) =>
      (getI x3 x4).bind fun (y_1 : (Int × Int) × (Int × Int) × Int × Int) =>
        (getI x3 x4).bind fun (y_2 : (Int × Int) × (Int × Int) × Int × Int) =>
          (getI x3 x4).bind fun (y_3 : (Int × Int) × (Int × Int) × Int × Int) =>
            L15_3 x0 (x3.set x4.toNat y.fst.fst) (IntKind.i64.wrap (x4 + 1))
else some ((x3, ()), ()) := (loopAt_eq _ _ _ _ _).trans (by kernel_rfl)
noncomputable def S15 (a0 : List ((Int × Int) × (Int × Int) × Int × Int)) : Option ((List ((Int × Int) × (Int × Int) × Int × Int) × PUnit) × PUnit) := F15.sem (a0, ())
theorem S15_eq (a0 : List ((Int × Int) × (Int × Int) × Int × Int)) : S15 a0 =
  bif
    decide (0 ≤ (↑a0.length : Int)) && decide ((↑a0.length : Int) ≤ (↑a0.length : Int)) &&
        decide ((↑a0.length : Int) * (↑48 : Int) ≤ 140737488355328) &&
      decide ((↑a0.length : Int) ≤ 9223372036854775807) then
  L15_3 a0 (List.replicate (↑a0.length : Int).toNat ty77.zero) 0
else none := by kernel_rfl
noncomputable def E62 : Env := mkEnv C tab15 [0, 1, 2, 3, 4, 5] 15 (fun (x : Nat) => none) (fun (x x_1 : Nat) => none)
  [(ty3, Mode.ro), (ty3, Mode.ro), (ty3, Mode.ro)]
noncomputable def K62 := endK C [(ty3, Mode.ro), (ty3, Mode.ro), (ty3, Mode.ro)] [(ty4, 0)] [RV.tmp 6]
noncomputable def S62 (a0 : Int) (a1 : Int) (a2 : Int) : Option ((Bool × PUnit) × PUnit) := F62.sem (a0, a1, a2, ())
theorem S62_eq (a0 : Int) (a1 : Int) (a2 : Int) : S62 a0 a1 a2 =
  bif decide (a0 ≥ a1) then some ((decide (a0 ≤ a2), ()), ()) else some ((false, ()), ()) := by kernel_rfl
noncomputable def E103 : Env := mkEnv C tab62 [0, 1] 5 (fun (x : Nat) => none) (fun (x x_1 : Nat) => none) [(ty3, Mode.ro)]
noncomputable def K103 := endK C [(ty3, Mode.ro)] [(ty4, 0)] [RV.tmp 2]
noncomputable def S103 (a0 : Int) : Option ((Bool × PUnit) × PUnit) := F103.sem (a0, ())
theorem S103_eq (a0 : Int) : S103 a0 =
  (S62 a0 (-400000000) 400000000).bind fun (y : (Bool × PUnit) × PUnit) => some ((y.fst.fst, ()), ()) := by kernel_rfl
noncomputable def E124 : Env := mkEnv C tab103 [0, 1] 7 (fun (x : Nat) => none) (fun (x x_1 : Nat) => none) [(ty3, Mode.ro)]
noncomputable def K124 := endK C [(ty3, Mode.ro)] [(ty3, 0)] [RV.tmp 2]
noncomputable def S124 (a0 : Int) : Option ((Int × PUnit) × PUnit) := F124.sem (a0, ())
theorem S124_eq (a0 : Int) : S124 a0 =
  some
  ((bif true then if a0 < IntKind.i64.wrap (0 - a0) then IntKind.i64.wrap (0 - a0) else a0
      else if IntKind.i64.wrap (0 - a0) < a0 then IntKind.i64.wrap (0 - a0) else a0,
      ()),
    ()) := by kernel_rfl
noncomputable def E104 : Env := mkEnv C tab124 [0, 1, 2, 3] 21 (fun (k : Nat) => bif k == 1000003 then some 3 else none) (fun (x x_1 : Nat) => none)
  [(ty3, Mode.ro), (ty3, Mode.ro)]
noncomputable def K104 := endK C [(ty3, Mode.ro), (ty3, Mode.ro)] [(ty3, 0)] [RV.tmp 4]
noncomputable def L104_3 (x0 : Int) (x1 : Int) : Option ((Int × PUnit) × PUnit) := loopAt E104 [1, 1, 0, 0] (Try.f104.body.getD .skip) K104 [V.d none 0 ty3 x0, V.d none 0 ty3 x1, V.dead, V.dead, V.dead, V.dead, V.dead, V.dead, V.dead, V.dead, V.dead, V.dead,
  V.dead, V.dead, V.dead, V.dead, V.dead, V.dead, V.dead, V.dead, V.dead]
theorem L104_3_eq (x0 : Int) (x1 : Int) : L104_3 x0 x1 =
  bif x1 != 0 then bif x1 != 0 then L104_3 x1 (x0.tmod x1) else none
else (S124 x0).bind fun (y : (Int × PUnit) × PUnit) => some ((y.fst.fst, ()), ()) := (loopAt_eq _ _ _ _ _).trans (by kernel_rfl)
noncomputable def S104 (a0 : Int) (a1 : Int) : Option ((Int × PUnit) × PUnit) := F104.sem (a0, a1, ())
theorem S104_eq (a0 : Int) (a1 : Int) : S104 a0 a1 =
  (S103 a0).bind fun (y : (Bool × PUnit) × PUnit) =>
  bif !y.fst.fst then some ((0, ()), ())
  else (S103 a1).bind fun (y : (Bool × PUnit) × PUnit) => bif !y.fst.fst then some ((0, ()), ()) else L104_3 a0 a1 := by kernel_rfl
noncomputable def E60 : Env := mkEnv C tab104 [0, 1, 3, 7, 12, 14] 19 (fun (x : Nat) => none) (fun (x x_1 : Nat) => none) [(ty36, Mode.ro)]
noncomputable def K60 := endK C [(ty36, Mode.ro)] [(ty4, 0)] [RV.tmp 2]
noncomputable def S60 (a0 : Int × Int) : Option ((Bool × PUnit) × PUnit) := F60.sem (a0, ())
theorem S60_eq (a0 : Int × Int) : S60 a0 =
  (S62 a0.snd 1 400000000).bind fun (y : (Bool × PUnit) × PUnit) =>
  bif y.fst.fst then
    (S103 a0.fst).bind fun (y : (Bool × PUnit) × PUnit) =>
      bif y.fst.fst then (S104 a0.fst a0.snd).bind fun (y : (Int × PUnit) × PUnit) => some ((y.fst.fst == 1, ()), ())
      else some ((false, ()), ())
  else some ((false, ()), ()) := by kernel_rfl
noncomputable def E61 : Env := mkEnv C tab60 [0, 1, 2, 3, 5, 7, 10, 12] 16 (fun (x : Nat) => none) (fun (x x_1 : Nat) => none)
  [(ty36, Mode.ro), (ty36, Mode.ro)]
noncomputable def K61 := endK C [(ty36, Mode.ro), (ty36, Mode.ro)] [(ty4, 0)] [RV.tmp 4]
noncomputable def S61 (a0 : Int × Int) (a1 : Int × Int) : Option ((Bool × PUnit) × PUnit) := F61.sem (a0, a1, ())
theorem S61_eq (a0 : Int × Int) (a1 : Int × Int) : S61 a0 a1 =
  some ((decide (IntKind.i64.wrap (a0.fst * a1.snd) < IntKind.i64.wrap (a1.fst * a0.snd)), ()), ()) := by kernel_rfl
noncomputable def E14 : Env := mkEnv C tab61 [0, 1, 3, 10, 12, 13, 18, 20, 21, 27, 29, 30, 39, 42, 43, 45, 47, 48] 57
  (fun (k : Nat) => bif k == 1000002 then some 9 else none) (fun (x x_1 : Nat) => none) [(ty25, Mode.ro)]
noncomputable def K14 := endK C [(ty25, Mode.ro)] [(ty4, 0)] [RV.tmp 2]
noncomputable def L14_2 (x0 : List ((Int × Int) × (Int × Int) × Int × Int)) (x3 : Int) : Option ((Bool × PUnit) × PUnit) := loopAt E14 [1, 0, 1, 0] (Try.f14.body.getD .skip) K14 [V.d none 0 ty25 x0, V.dead, V.dead, V.d none 0 (Ty.int IntKind.i64) x3, V.dead, V.dead, V.dead, V.dead, V.dead, V.dead,
  V.dead, V.dead, V.dead, V.dead, V.dead, V.dead, V.dead, V.dead, V.dead, V.dead, V.dead, V.dead, V.dead, V.dead,
  V.dead, V.dead, V.dead, V.dead, V.dead, V.dead, V.dead, V.dead, V.dead, V.dead, V.dead, V.dead, V.dead, V.dead,
  V.dead, V.dead, V.dead, V.dead, V.dead, V.dead, V.dead, V.dead, V.dead, V.dead, V.dead, V.dead, V.dead, V.dead,
  V.dead, V.dead, V.dead, V.dead, V.dead]
theorem L14_2_eq (x0 : List ((Int × Int) × (Int × Int) × Int × Int)) (x3 : Int) : L14_2 x0 x3 =
  bif decide (x3 < (↑x0.length : Int)) then
  (getI x0 x3).bind fun (y : (Int × Int) × (Int × Int) × Int × Int) =>
    (S60 y.fst).bind fun (y : (Bool × PUnit) × PUnit) =>
      bif !y.fst.fst then some ((false, ()), ())
      else
        (getI x0 x3).bind fun (y : (Int × Int) × (Int × Int) × Int × Int) =>
          (S60 y.snd.fst).bind fun (y : (Bool × PUnit) × PUnit) =>
            bif !y.fst.fst then some ((false, ()), ())
            else
              (getI x0 x3).bind fun (y : (Int × Int) × (Int × Int) × Int × Int) =>
                (S60 y.snd.snd).bind fun (y : (Bool × PUnit) × PUnit) =>
                  bif !y.fst.fst then some ((false, ()), ())
                  else
                    bif decide (x3 > 0) then
                      (getI x0 (IntKind.i64.wrap (x3 - 1))).bind fun (y : (Int × Int) × (Int × Int) × Int × Int) =>
                        (getI x0 x3).bind fun (y_1 : (Int × Int) × (Int × Int) × Int × Int) =>
                          (S61 y.fst y_1.fst).bind fun (y : (Bool × PUnit) × PUnit) =>
                            bif !y.fst.fst then some ((false, ()), ()) else L14_2 x0 (IntKind.i64.wrap (x3 + 1))
                    else L14_2 x0 (IntKind.i64.wrap (x3 + 1))
else (S62 (↑x0.length : Int) 1 6).bind fun (y : (Bool × PUnit) × PUnit) => some ((y.fst.fst, ()), ()) := (loopAt_eq _ _ _ _ _).trans (by kernel_rfl)
noncomputable def S14 (a0 : List ((Int × Int) × (Int × Int) × Int × Int)) : Option ((Bool × PUnit) × PUnit) := F14.sem (a0, ())
theorem S14_eq (a0 : List ((Int × Int) × (Int × Int) × Int × Int)) : S14 a0 =
  L14_2 a0 0 := by kernel_rfl
noncomputable def E105 : Env := mkEnv C tab14 [0, 1] 9 (fun (x : Nat) => none) (fun (x x_1 : Nat) => none) [(ty3, Mode.ro)]
noncomputable def K105 := endK C [(ty3, Mode.ro)] [(ty4, 0)] [RV.tmp 2]
noncomputable def S105 (a0 : Int) : Option ((Bool × PUnit) × PUnit) := F105.sem (a0, ())
theorem S105_eq (a0 : Int) : S105 a0 =
  bif decide (a0 ≥ -400000000) then some ((decide (a0 ≤ 400000000), ()), ()) else some ((false, ()), ()) := by kernel_rfl
noncomputable def E71 : Env := mkEnv C tab105 [0, 1] 8 (fun (x : Nat) => none) (fun (x x_1 : Nat) => none) [(ty3, Mode.ro)]
noncomputable def K71 := endK C [(ty3, Mode.ro)] [(ty3, 0)] [RV.tmp 2]
noncomputable def S71 (a0 : Int) : Option ((Int × PUnit) × PUnit) := F71.sem (a0, ())
theorem S71_eq (a0 : Int) : S71 a0 =
  bif decide (a0 < 0) then some ((IntKind.i64.wrap (0 - a0), ()), ()) else some ((a0, ()), ()) := by kernel_rfl
noncomputable def E114 : Env := mkEnv C tab71 [0, 1, 2, 3] 16 (fun (k : Nat) => bif k == 1000002 then some 3 else none) (fun (x x_1 : Nat) => none)
  [(ty3, Mode.ro), (ty3, Mode.ro)]
noncomputable def K114 := endK C [(ty3, Mode.ro), (ty3, Mode.ro)] [(ty3, 0)] [RV.tmp 4]
noncomputable def L114_2 (x0 : Int) (x1 : Int) : Option ((Int × PUnit) × PUnit) := loopAt E114 [1, 1, 0, 0] (Try.f114.body.getD .skip) K114 [V.d none 0 ty3 x0, V.d none 0 ty3 x1, V.dead, V.dead, V.dead, V.dead, V.dead, V.dead, V.dead, V.dead, V.dead, V.dead,
  V.dead, V.dead, V.dead, V.dead]
theorem L114_2_eq (x0 : Int) (x1 : Int) : L114_2 x0 x1 =
  bif x1 != 0 then bif x1 != 0 then L114_2 x1 (x0.tmod x1) else none else some ((x0, ()), ()) := (loopAt_eq _ _ _ _ _).trans (by kernel_rfl)
noncomputable def S114 (a0 : Int) (a1 : Int) : Option ((Int × PUnit) × PUnit) := F114.sem (a0, a1, ())
theorem S114_eq (a0 : Int) (a1 : Int) : S114 a0 a1 =
  (S71 a0).bind fun (y : (Int × PUnit) × PUnit) =>
  (S71 a1).bind fun (y_1 : (Int × PUnit) × PUnit) => L114_2 y.fst.fst y_1.fst.fst := by kernel_rfl
noncomputable def E106 : Env := mkEnv C tab114 [0, 1, 2, 3] 16 (fun (x : Nat) => none) (fun (x x_1 : Nat) => none) [(ty3, Mode.ro), (ty3, Mode.ro)]
noncomputable def K106 := endK C [(ty3, Mode.ro), (ty3, Mode.ro)] [(ty3, 0)] [RV.tmp 4]
noncomputable def S106 (a0 : Int) (a1 : Int) : Option ((Int × PUnit) × PUnit) := F106.sem (a0, a1, ())
theorem S106_eq (a0 : Int) (a1 : Int) : S106 a0 a1 =
  (S105 a0).bind fun (y : (Bool × PUnit) × PUnit) =>
  bif !y.fst.fst then some ((0, ()), ())
  else
    (S105 a1).bind fun (y : (Bool × PUnit) × PUnit) =>
      bif !y.fst.fst then some ((0, ()), ())
      else (S114 a0 a1).bind fun (y : (Int × PUnit) × PUnit) => some ((y.fst.fst, ()), ()) := by kernel_rfl
noncomputable def E64 : Env := mkEnv C tab106 [0, 1, 3, 7, 12, 17, 19] 24 (fun (x : Nat) => none) (fun (x x_1 : Nat) => none) [(ty36, Mode.ro)]
noncomputable def K64 := endK C [(ty36, Mode.ro)] [(ty4, 0)] [RV.tmp 2]
noncomputable def S64 (a0 : Int × Int) : Option ((Bool × PUnit) × PUnit) := F64.sem (a0, ())
theorem S64_eq (a0 : Int × Int) : S64 a0 =
  bif decide (a0.snd ≥ 1) then
  bif decide (a0.snd ≤ 400000000) then
    (S105 a0.fst).bind fun (y : (Bool × PUnit) × PUnit) =>
      bif y.fst.fst then (S106 a0.fst a0.snd).bind fun (y : (Int × PUnit) × PUnit) => some ((y.fst.fst == 1, ()), ())
      else some ((false, ()), ())
  else some ((false, ()), ())
else some ((false, ()), ()) := by kernel_rfl
noncomputable def E51 : Env := mkEnv C tab64 [0, 1, 2, 3, 5, 6, 15, 17, 20, 22] 31 (fun (x : Nat) => none) (fun (x x_1 : Nat) => none)
  [(ty36, Mode.ro), (ty36, Mode.ro)]
noncomputable def K51 := endK C [(ty36, Mode.ro), (ty36, Mode.ro)] [(ty3, 0)] [RV.tmp 4]
noncomputable def S51 (a0 : Int × Int) (a1 : Int × Int) : Option ((Int × PUnit) × PUnit) := F51.sem (a0, a1, ())
theorem S51_eq (a0 : Int × Int) (a1 : Int × Int) : S51 a0 a1 =
  (S64 a0).bind fun (y : (Bool × PUnit) × PUnit) =>
  bif !y.fst.fst then some ((2, ()), ())
  else
    (S64 a1).bind fun (y : (Bool × PUnit) × PUnit) =>
      bif !y.fst.fst then some ((2, ()), ())
      else
        bif decide (IntKind.i64.wrap (a0.fst * a1.snd) < IntKind.i64.wrap (a1.fst * a0.snd)) then some ((-1, ()), ())
        else
          bif decide (IntKind.i64.wrap (a0.fst * a1.snd) > IntKind.i64.wrap (a1.fst * a0.snd)) then some ((1, ()), ())
          else some ((0, ()), ()) := by kernel_rfl
noncomputable def E16 : Env := mkEnv C tab51 [0, 1, 3, 4, 13, 18, 20, 25, 31, 39, 42, 43, 45] 51
  (fun (k : Nat) => bif k == 1000004 then some 57345 else none) (fun (x x_1 : Nat) => none) [(ty25, Mode.ro)]
noncomputable def K16 := endK C [(ty25, Mode.ro)] [(ty4, 0)] [RV.tmp 2]
noncomputable def L16_4 (x0 : List ((Int × Int) × (Int × Int) × Int × Int)) (x13 : List ((Int × Int) × (Int × Int) × Int × Int)) (x14 : Int) (x15 : Int) : Option ((Bool × PUnit) × PUnit) := loopAt E16 [1, 1, 0, 1, 0] (Try.f16.body.getD .skip) K16 [V.d none 0 ty25 x0, V.dead, V.dead, V.dead, V.dead, V.dead, V.dead, V.dead, V.dead, V.dead, V.dead, V.dead, V.dead,
  V.d none 0 ty25 x13, V.d none 0 (Ty.int IntKind.i64) x14, V.d none 0 (Ty.int IntKind.i64) x15, V.dead, V.dead, V.dead,
  V.dead, V.dead, V.dead, V.dead, V.dead, V.dead, V.dead, V.dead, V.dead, V.dead, V.dead, V.dead, V.dead, V.dead,
  V.dead, V.dead, V.dead, V.dead, V.dead, V.dead, V.dead, V.dead, V.dead, V.dead, V.dead, V.dead, V.dead, V.dead,
  V.dead, V.dead, V.dead, V.dead]
theorem L16_4_eq (x0 : List ((Int × Int) × (Int × Int) × Int × Int)) (x13 : List ((Int × Int) × (Int × Int) × Int × Int)) (x14 : Int) (x15 : Int) : L16_4 x0 x13 x14 x15 =
  bif decide (x15 < x14) then
  (getI x13 x15).bind fun (y : (Int × Int) × (Int × Int) × Int × Int) =>
    (S64 y.fst).bind fun (y_1 : (Bool × PUnit) × PUnit) =>
      bif !y_1.fst.fst then some ((false, ()), ())
      else
        (S64 y.snd.fst).bind fun (y_2 : (Bool × PUnit) × PUnit) =>
          bif !y_2.fst.fst then some ((false, ()), ())
          else
            (S64 y.snd.snd).bind fun (y_3 : (Bool × PUnit) × PUnit) =>
              bif !y_3.fst.fst then some ((false, ()), ())
              else
                bif decide (x15 > 0) then
                  (getI x0 (IntKind.i64.wrap (x15 - 1))).bind fun (y_4 : (Int × Int) × (Int × Int) × Int × Int) =>
                    (S51 y_4.fst y.fst).bind fun (y : (Int × PUnit) × PUnit) =>
                      bif y.fst.fst != -1 then some ((false, ()), ()) else L16_4 x0 x13 x14 (IntKind.i64.wrap (x15 + 1))
                else L16_4 x0 x13 x14 (IntKind.i64.wrap (x15 + 1))
else some ((true, ()), ()) := (loopAt_eq _ _ _ _ _).trans (by kernel_rfl)
noncomputable def S16 (a0 : List ((Int × Int) × (Int × Int) × Int × Int)) : Option ((Bool × PUnit) × PUnit) := F16.sem (a0, ())
theorem S16_eq (a0 : List ((Int × Int) × (Int × Int) × Int × Int)) : S16 a0 =
  bif decide ((↑a0.length : Int) < 1) then some ((false, ()), ())
else bif decide ((↑a0.length : Int) > 6) then some ((false, ()), ()) else L16_4 a0 a0 (↑a0.length : Int) 0 := by kernel_rfl
noncomputable def E27 : Env := mkEnv C tab16 [0, 1, 2, 3, 5, 7, 10, 12] 15 (fun (x : Nat) => none) (fun (x x_1 : Nat) => none)
  [(ty36, Mode.ro), (ty36, Mode.ro)]
noncomputable def K27 := endK C [(ty36, Mode.ro), (ty36, Mode.ro)] [(ty4, 0)] [RV.tmp 4]
noncomputable def S27 (a0 : Int × Int) (a1 : Int × Int) : Option ((Bool × PUnit) × PUnit) := F27.sem (a0, a1, ())
theorem S27_eq (a0 : Int × Int) (a1 : Int × Int) : S27 a0 a1 =
  bif a0.fst != a1.fst then some ((false, ()), ())
else bif a0.snd != a1.snd then some ((false, ()), ()) else some ((true, ()), ()) := by kernel_rfl
noncomputable def E65 : Env := mkEnv C tab27 [0, 1, 2, 3, 5, 7, 11, 13, 17, 19] 23 (fun (x : Nat) => none) (fun (x x_1 : Nat) => none)
  [(ty77, Mode.ro), (ty77, Mode.ro)]
noncomputable def K65 := endK C [(ty77, Mode.ro), (ty77, Mode.ro)] [(ty4, 0)] [RV.tmp 4]
noncomputable def S65 (a0 : (Int × Int) × (Int × Int) × Int × Int) (a1 : (Int × Int) × (Int × Int) × Int × Int) : Option ((Bool × PUnit) × PUnit) := F65.sem (a0, a1, ())
theorem S65_eq (a0 : (Int × Int) × (Int × Int) × Int × Int) (a1 : (Int × Int) × (Int × Int) × Int × Int) : S65 a0 a1 =
  (S27 a0.fst a1.fst).bind fun (y : (Bool × PUnit) × PUnit) =>
  bif !y.fst.fst then some ((false, ()), ())
  else
    (S27 a0.snd.fst a1.snd.fst).bind fun (y : (Bool × PUnit) × PUnit) =>
      bif !y.fst.fst then some ((false, ()), ())
      else
        (S27 a0.snd.snd a1.snd.snd).bind fun (y : (Bool × PUnit) × PUnit) =>
          bif !y.fst.fst then some ((false, ()), ()) else some ((true, ()), ()) := by kernel_rfl
noncomputable def E17 : Env := mkEnv C tab65 [0, 1, 2, 3, 5, 17, 19, 21, 23] 27 (fun (k : Nat) => bif k == 1000004 then some 35 else none)
  (fun (x x_1 : Nat) => none) [(ty25, Mode.ro), (ty25, Mode.ro)]
noncomputable def K17 := endK C [(ty25, Mode.ro), (ty25, Mode.ro)] [(ty4, 0)] [RV.tmp 4]
noncomputable def L17_4 (x0 : List ((Int × Int) × (Int × Int) × Int × Int)) (x1 : List ((Int × Int) × (Int × Int) × Int × Int)) (x5 : Int) : Option ((Bool × PUnit) × PUnit) := loopAt E17 [1, 1, 0, 1, 0] (Try.f17.body.getD .skip) K17 [V.d none 0 ty25 x0, V.d none 0 ty25 x1, V.dead, V.dead, V.dead, V.d none 0 (Ty.int IntKind.i64) x5, V.dead, V.dead,
  V.dead, V.dead, V.dead, V.dead, V.dead, V.dead, V.dead, V.dead, V.dead, V.dead, V.dead, V.dead, V.dead, V.dead,
  V.dead, V.dead, V.dead, V.dead, V.dead]
theorem L17_4_eq (x0 : List ((Int × Int) × (Int × Int) × Int × Int)) (x1 : List ((Int × Int) × (Int × Int) × Int × Int)) (x5 : Int) : L17_4 x0 x1 x5 =
  bif decide (x5 < (↑x0.length : Int)) then
  (getI x0 x5).bind fun (y : (Int × Int) × (Int × Int) × Int × Int) =>
    (getI x1 x5).bind fun (y_1 : (Int × Int) × (Int × Int) × Int × Int) =>
      (S65 y y_1).bind fun (y : (Bool × PUnit) × PUnit) =>
        bif !y.fst.fst then some ((false, ()), ()) else L17_4 x0 x1 (IntKind.i64.wrap (x5 + 1))
else some ((true, ()), ()) := (loopAt_eq _ _ _ _ _).trans (by kernel_rfl)
noncomputable def S17 (a0 : List ((Int × Int) × (Int × Int) × Int × Int)) (a1 : List ((Int × Int) × (Int × Int) × Int × Int)) : Option ((Bool × PUnit) × PUnit) := F17.sem (a0, a1, ())
theorem S17_eq (a0 : List ((Int × Int) × (Int × Int) × Int × Int)) (a1 : List ((Int × Int) × (Int × Int) × Int × Int)) : S17 a0 a1 =
  bif (↑a0.length : Int) != (↑a1.length : Int) then some ((false, ()), ()) else L17_4 a0 a1 0 := by kernel_rfl
noncomputable def E3 : Env := mkEnv C tab17 [0, 1, 3, 4, 5, 6] 27 (fun (x : Nat) => none) (fun (x x_1 : Nat) => none) [(ty22, Mode.ro)]
noncomputable def K3 := endK C [(ty22, Mode.ro)] [(ty4, 0)] [RV.tmp 2]
noncomputable def S3 (a0 : List ((Int × Int) × (Int × Int) × Int × Int)) : Option ((Bool × PUnit) × PUnit) := F3.sem (a0, ())
theorem S3_eq (a0 : List ((Int × Int) × (Int × Int) × Int × Int)) : S3 a0 =
  (S13 a0 1048576).bind fun (y : (Int × PUnit) × PUnit) =>
  bif decide (y.fst.fst < 0) then some ((true, ()), ())
  else
    (S15 a0).bind fun (y : (List ((Int × Int) × (Int × Int) × Int × Int) × PUnit) × PUnit) =>
      (S14 y.fst.fst).bind fun (y : (Bool × PUnit) × PUnit) =>
        (S15 a0).bind fun (y_1 : (List ((Int × Int) × (Int × Int) × Int × Int) × PUnit) × PUnit) =>
          (S16 y_1.fst.fst).bind fun (y_2 : (Bool × PUnit) × PUnit) =>
            bif !y_2.fst.fst == y.fst.fst then some ((false, ()), ())
            else
              (S15 a0).bind fun (y : (List ((Int × Int) × (Int × Int) × Int × Int) × PUnit) × PUnit) =>
                (S17 y_1.fst.fst y.fst.fst).bind fun (y : (Bool × PUnit) × PUnit) =>
                  bif !y.fst.fst then some ((false, ()), ()) else some ((true, ()), ()) := by kernel_rfl
noncomputable def E18 : Env := mkEnv C tab3 [0, 1, 2, 3, 15, 19, 21, 22, 39] 42 (fun (x : Nat) => none) (fun (x x_1 : Nat) => none)
  [(ty25, Mode.ro), (ty25, Mode.ro)]
noncomputable def K18 := endK C [(ty25, Mode.ro), (ty25, Mode.ro)] [(ty25, 1), (ty4, 0)] [RV.tmp 4, RV.tmp 5]
noncomputable def S18 (a0 : List ((Int × Int) × (Int × Int) × Int × Int)) (a1 : List ((Int × Int) × (Int × Int) × Int × Int)) : Option ((List ((Int × Int) × (Int × Int) × Int × Int) × Bool × PUnit) × PUnit) := F18.sem (a0, a1, ())
theorem S18_eq (a0 : List ((Int × Int) × (Int × Int) × Int × Int)) (a1 : List ((Int × Int) × (Int × Int) × Int × Int)) : S18 a0 a1 =
  (S14 a0).bind fun (y : (Bool × PUnit) × PUnit) =>
  bif !y.fst.fst then some (([], false, ()), ())
  else
    (S14 a1).bind fun (y : (Bool × PUnit) × PUnit) =>
      bif !y.fst.fst then some (([], false, ()), ())
      else
        (getI a0 (IntKind.i64.wrap ((↑a0.length : Int) - 1))).bind fun (y : (Int × Int) × (Int × Int) × Int × Int) =>
          (getI a1 0).bind fun (y_1 : (Int × Int) × (Int × Int) × Int × Int) =>
            bif
                !(y.fst.fst == y_1.fst.fst && y.fst.snd == y_1.fst.snd &&
                    (y.snd.fst.fst == y_1.snd.fst.fst && y.snd.fst.snd == y_1.snd.fst.snd &&
                      (y.snd.snd.fst == y_1.snd.snd.fst && y.snd.snd.snd == y_1.snd.snd.snd))) then
              some (([], false, ()), ())
            else
              bif decide (IntKind.i64.wrap (IntKind.i64.wrap ((↑a0.length : Int) + (↑a1.length : Int)) - 1) > 6) then
                some (([], false, ()), ())
              else
                bif decide ((0 + a0.length) * 48 ≤ 140737488355328) then
                  bif
                      decide (0 ≤ 1) && decide (1 ≤ (↑a1.length : Int)) &&
                        decide ((↑a1.length : Int) ≤ (↑a1.length : Int)) then
                    bif
                        decide
                          ((a0.length + (List.drop (Int.toNat 1) (List.take (↑a1.length : Int).toNat a1)).length) * 48 ≤
                            140737488355328) then
                      some ((a0 ++ List.drop (Int.toNat 1) (List.take (↑a1.length : Int).toNat a1), true, ()), ())
                    else none
                  else none
                else none := by kernel_rfl
noncomputable def E19 : Env := mkEnv C tab18 [0, 1, 2, 3, 15, 19, 21, 22, 38] 41 (fun (x : Nat) => none) (fun (x x_1 : Nat) => none)
  [(ty25, Mode.ro), (ty25, Mode.ro)]
noncomputable def K19 := endK C [(ty25, Mode.ro), (ty25, Mode.ro)] [(ty25, 1), (ty4, 0)] [RV.tmp 4, RV.tmp 5]
noncomputable def S19 (a0 : List ((Int × Int) × (Int × Int) × Int × Int)) (a1 : List ((Int × Int) × (Int × Int) × Int × Int)) : Option ((List ((Int × Int) × (Int × Int) × Int × Int) × Bool × PUnit) × PUnit) := F19.sem (a0, a1, ())
theorem S19_eq (a0 : List ((Int × Int) × (Int × Int) × Int × Int)) (a1 : List ((Int × Int) × (Int × Int) × Int × Int)) : S19 a0 a1 =
  (S16 a0).bind fun (y : (Bool × PUnit) × PUnit) =>
  bif !y.fst.fst then some (([], false, ()), ())
  else
    (S16 a1).bind fun (y : (Bool × PUnit) × PUnit) =>
      bif !y.fst.fst then some (([], false, ()), ())
      else
        (getI a0 (IntKind.i64.wrap ((↑a0.length : Int) - 1))).bind fun (y : (Int × Int) × (Int × Int) × Int × Int) =>
          (getI a1 0).bind fun (y_1 : (Int × Int) × (Int × Int) × Int × Int) =>
            bif
                !(y.fst.fst == y_1.fst.fst && y.fst.snd == y_1.fst.snd &&
                    (y.snd.fst.fst == y_1.snd.fst.fst && y.snd.fst.snd == y_1.snd.fst.snd &&
                      (y.snd.snd.fst == y_1.snd.snd.fst && y.snd.snd.snd == y_1.snd.snd.snd))) then
              some (([], false, ()), ())
            else
              bif decide (IntKind.i64.wrap (IntKind.i64.wrap ((↑a0.length : Int) + (↑a1.length : Int)) - 1) > 6) then
                some (([], false, ()), ())
              else
                bif decide ((0 + a0.length) * 48 ≤ 140737488355328) then
                  bif
                      decide (0 ≤ 1) && decide (1 ≤ (↑a1.length : Int)) &&
                        decide ((↑a1.length : Int) ≤ (↑a1.length : Int)) then
                    bif
                        decide
                          ((a0.length + (List.drop (Int.toNat 1) (List.take (↑a1.length : Int).toNat a1)).length) * 48 ≤
                            140737488355328) then
                      some ((a0 ++ List.drop (Int.toNat 1) (List.take (↑a1.length : Int).toNat a1), true, ()), ())
                    else none
                  else none
                else none := by kernel_rfl
noncomputable def E20 : Env := mkEnv C tab19 [0, 1, 2, 3, 5, 12, 15, 16, 20, 23, 24, 28, 31, 32, 36, 39, 40, 44, 47, 48, 52, 55, 56] 61
  (fun (k : Nat) => bif k == 1000002 then some 35 else none) (fun (x x_1 : Nat) => none)
  [(ty25, Mode.mut 1), (ty3, Mode.ro)]
noncomputable def K20 := endK C [(ty25, Mode.mut 1), (ty3, Mode.ro)] [(ty3, 0)] [RV.tmp 4]
noncomputable def L20_2 (x0 : List ((Int × Int) × (Int × Int) × Int × Int)) (x1 : Int) (x5 : Int) : Option ((Int × PUnit) × List ((Int × Int) × (Int × Int) × Int × Int) × PUnit) := loopAt E20 [1, 0, 1, 0] (Try.f20.body.getD .skip) K20 [V.d none 1 ty25 x0, V.d none 0 ty3 x1, V.dead, V.dead, V.dead, V.d none 0 (Ty.int IntKind.i64) x5, V.dead, V.dead,
  V.dead, V.dead, V.dead, V.dead, V.dead, V.dead, V.dead, V.dead, V.dead, V.dead, V.dead, V.dead, V.dead, V.dead,
  V.dead, V.dead, V.dead, V.dead, V.dead, V.dead, V.dead, V.dead, V.dead, V.dead, V.dead, V.dead, V.dead, V.dead,
  V.dead, V.dead, V.dead, V.dead, V.dead, V.dead, V.dead, V.dead, V.dead, V.dead, V.dead, V.dead, V.dead, V.dead,
  V.dead, V.dead, V.dead, V.dead, V.dead, V.dead, V.dead, V.dead, V.dead, V.dead, V.dead]
theorem L20_2_eq (x0 : List ((Int × Int) × (Int × Int) × Int × Int)) (x1 : Int) (x5 : Int) : L20_2 x0 x1 x5 =
  bif decide (x5 < (↑x0.length : Int)) then
  (getI x0 x5).bind fun (y : (Int × Int) × (Int × Int) × Int × Int) =>
    (getI x0 x5).bind fun (y : (Int × Int) × (Int × Int) × Int × Int) =>
      (getI x0 x5).bind fun (y : (Int × Int) × (Int × Int) × Int × Int) =>
        (getI (x0.set x5.toNat ((x1, y.fst.snd), y.snd)) x5).bind fun (y_1 : (Int × Int) × (Int × Int) × Int × Int) =>
          (getI (x0.set x5.toNat ((x1, y.fst.snd), y.snd)) x5).bind fun (y_2 : (Int × Int) × (Int × Int) × Int × Int) =>
            (getI (x0.set x5.toNat ((x1, y.fst.snd), y.snd)) x5).bind
              fun (y_3 : (Int × Int) × (Int × Int) × Int × Int) =>
              (getI
                    ((x0.set x5.toNat ((x1, y.fst.snd), y.snd)).set x5.toNat
                      ((y_3.fst.fst, IntKind.i64.wrap (x1 + 1)), y_3.snd))
                    x5).bind
                fun (y_4 : (Int × Int) × (Int × Int) × Int × Int) =>
                (getI
                      ((x0.set x5.toNat ((x1, y.fst.snd), y.snd)).set x5.toNat
                        ((y_3.fst.fst, IntKind.i64.wrap (x1 + 1)), y_3.snd))
                      x5).bind
                  fun (y_5 : (Int × Int) × (Int × Int) × Int × Int) =>
                  (getI
                        ((x0.set x5.toNat ((x1, y.fst.snd), y.snd)).set x5.toNat
                          ((y_3.fst.fst, IntKind.i64.wrap (x1 + 1)), y_3.snd))
                        x5).bind
                    fun (y_6 : (Int × Int) × (Int × Int) × Int × Int) =>
                    (getI
                          (((x0.set x5.toNat ((x1, y.fst.snd), y.snd)).set x5.toNat
                                ((y_3.fst.fst, IntKind.i64.wrap (x1 + 1)), y_3.snd)).set
                            x5.toNat
                            (y_6.fst, (IntKind.i64.wrap (IntKind.i64.wrap (x1 + 1) + 1), y_6.snd.fst.snd), y_6.snd.snd))
                          x5).bind
                      fun (y_7 : (Int × Int) × (Int × Int) × Int × Int) =>
                      (getI
                            (((x0.set x5.toNat ((x1, y.fst.snd), y.snd)).set x5.toNat
                                  ((y_3.fst.fst, IntKind.i64.wrap (x1 + 1)), y_3.snd)).set
                              x5.toNat
                              (y_6.fst, (IntKind.i64.wrap (IntKind.i64.wrap (x1 + 1) + 1), y_6.snd.fst.snd),
                                y_6.snd.snd))
                            x5).bind
                        fun (y_8 : (Int × Int) × (Int × Int) × Int × Int) =>
                        (getI
                              (((x0.set x5.toNat ((x1, y.fst.snd), y.snd)).set x5.toNat
                                    ((y_3.fst.fst, IntKind.i64.wrap (x1 + 1)), y_3.snd)).set
                                x5.toNat
                                (y_6.fst, (IntKind.i64.wrap (IntKind.i64.wrap (x1 + 1) + 1), y_6.snd.fst.snd),
                                  y_6.snd.snd))
                              x5).bind
                          fun (y_9 : (Int × Int) × (Int × Int) × Int × Int) =>
                          (getI
                                ((((x0.set x5.toNat ((x1, y.fst.snd), y.snd)).set x5.toNat
                                          ((y_3.fst.fst, IntKind.i64.wrap (x1 + 1)), y_3.snd)).set
                                      x5.toNat
                                      (y_6.fst, (IntKind.i64.wrap (IntKind.i64.wrap (x1 + 1) + 1), y_6.snd.fst.snd),
                                        y_6.snd.snd)).set
                                  x5.toNat
                                  (y_9.fst,
                                    (y_9.snd.fst.fst,
                                      IntKind.i64.wrap (IntKind.i64.wrap (IntKind.i64.wrap (x1 + 1) + 1) + 1)),
                                    y_9.snd.snd))
                                x5).bind
                            fun (y_10 : (Int × Int) × (Int × Int) × Int × Int) =>
                            (getI
                                  ((((x0.set x5.toNat ((x1, y.fst.snd), y.snd)).set x5.toNat
                                            ((y_3.fst.fst, IntKind.i64.wrap (x1 + 1)), y_3.snd)).set
                                        x5.toNat
                                        (y_6.fst, (IntKind.i64.wrap (IntKind.i64.wrap (x1 + 1) + 1), y_6.snd.fst.snd),
                                          y_6.snd.snd)).set
                                    x5.toNat
                                    (y_9.fst,
                                      (y_9.snd.fst.fst,
                                        IntKind.i64.wrap (IntKind.i64.wrap (IntKind.i64.wrap (x1 + 1) + 1) + 1)),
                                      y_9.snd.snd))
                                  x5).bind
                              fun (y_11 : (Int × Int) × (Int × Int) × Int × Int) =>
                              (getI
                                    ((((x0.set x5.toNat ((x1, y.fst.snd), y.snd)).set x5.toNat
                                              ((y_3.fst.fst, IntKind.i64.wrap (x1 + 1)), y_3.snd)).set
                                          x5.toNat
                                          (y_6.fst, (IntKind.i64.wrap (IntKind.i64.wrap (x1 + 1) + 1), y_6.snd.fst.snd),
                                            y_6.snd.snd)).set
                                      x5.toNat
                                      (y_9.fst,
                                        (y_9.snd.fst.fst,
                                          IntKind.i64.wrap (IntKind.i64.wrap (IntKind.i64.wrap (x1 + 1) + 1) + 1)),
                                        y_9.snd.snd))
                                    x5).bind
                                fun (y_12 : (Int × Int) × (Int × Int) × Int × Int) =>
                                (getI
                                      (((((x0.set x5.toNat ((x1, y.fst.snd), y.snd)).set x5.toNat
                                                    ((y_3.fst.fst, IntKind.i64.wrap (x1 + 1)), y_3.snd)).set
                                                x5.toNat
                                                (y_6.fst,
                                                  (IntKind.i64.wrap (IntKind.i64.wrap (x1 + 1) + 1), y_6.snd.fst.snd),
                                                  y_6.snd.snd)).set
                                            x5.toNat
                                            (y_9.fst,
                                              (y_9.snd.fst.fst,
                                                IntKind.i64.wrap
                                                  (IntKind.i64.wrap (IntKind.i64.wrap (x1 + 1) + 1) + 1)),
                                              y_9.snd.snd)).set
                                        x5.toNat
                                        (y_12.fst, y_12.snd.fst,
                                          IntKind.i64.wrap
                                            (IntKind.i64.wrap (IntKind.i64.wrap (IntKind.i64.wrap (x1 + 1) + 1) + 1) +
                                              1),
                                          y_12.snd.snd.snd))
                                      x5).bind
                                  fun (y_13 : (Int × Int) × (Int × Int) × Int × Int) =>
                                  (getI
                                        (((((x0.set x5.toNat ((x1, y.fst.snd), y.snd)).set x5.toNat
                                                      ((y_3.fst.fst, IntKind.i64.wrap (x1 + 1)), y_3.snd)).set
                                                  x5.toNat
                                                  (y_6.fst,
                                                    (IntKind.i64.wrap (IntKind.i64.wrap (x1 + 1) + 1), y_6.snd.fst.snd),
                                                    y_6.snd.snd)).set
                                              x5.toNat
                                              (y_9.fst,
                                                (y_9.snd.fst.fst,
                                                  IntKind.i64.wrap
                                                    (IntKind.i64.wrap (IntKind.i64.wrap (x1 + 1) + 1) + 1)),
                                                y_9.snd.snd)).set
                                          x5.toNat
                                          (y_12.fst, y_12.snd.fst,
                                            IntKind.i64.wrap
                                              (IntKind.i64.wrap (IntKind.i64.wrap (IntKind.i64.wrap (x1 + 1) + 1) + 1) +
                                                1),
                                            y_12.snd.snd.snd))
                                        x5).bind
                                    fun (y_14 : (Int × Int) × (Int × Int) × Int × Int) =>
                                    (getI
                                          (((((x0.set x5.toNat ((x1, y.fst.snd), y.snd)).set x5.toNat
                                                        ((y_3.fst.fst, IntKind.i64.wrap (x1 + 1)), y_3.snd)).set
                                                    x5.toNat
                                                    (y_6.fst,
                                                      (IntKind.i64.wrap (IntKind.i64.wrap (x1 + 1) + 1),
                                                        y_6.snd.fst.snd),
                                                      y_6.snd.snd)).set
                                                x5.toNat
                                                (y_9.fst,
                                                  (y_9.snd.fst.fst,
                                                    IntKind.i64.wrap
                                                      (IntKind.i64.wrap (IntKind.i64.wrap (x1 + 1) + 1) + 1)),
                                                  y_9.snd.snd)).set
                                            x5.toNat
                                            (y_12.fst, y_12.snd.fst,
                                              IntKind.i64.wrap
                                                (IntKind.i64.wrap
                                                    (IntKind.i64.wrap (IntKind.i64.wrap (x1 + 1) + 1) + 1) +
                                                  1),
                                              y_12.snd.snd.snd))
                                          x5).bind
                                      fun (y_15 : (Int × Int) × (Int × Int) × Int × Int) =>
                                      L20_2
                                        ((((((x0.set x5.toNat ((x1, y.fst.snd), y.snd)).set x5.toNat
                                                          ((y_3.fst.fst, IntKind.i64.wrap (x1 + 1)), y_3.snd)).set
                                                      x5.toNat
                                                      (y_6.fst,
                                                        (IntKind.i64.wrap (IntKind.i64.wrap (x1 + 1) + 1),
                                                          y_6.snd.fst.snd),
                                                        y_6.snd.snd)).set
                                                  x5.toNat
                                                  (y_9.fst,
                                                    (y_9.snd.fst.fst,
                                                      IntKind.i64.wrap
                                                        (IntKind.i64.wrap (IntKind.i64.wrap (x1 + 1) + 1) + 1)),
                                                    y_9.snd.snd)).set
                                              x5.toNat
                                              (y_12.fst, y_12.snd.fst,
                                                IntKind.i64.wrap
                                                  (IntKind.i64.wrap
                                                      (IntKind.i64.wrap (IntKind.i64.wrap (x1 + 1) + 1) + 1) +
                                                    1),
                                                y_12.snd.snd.snd)).set
                                          x5.toNat
                                          (y_15.fst, y_15.snd.fst, y_15.snd.snd.fst,
                                            IntKind.i64.wrap
                                              (IntKind.i64.wrap
                                                  (IntKind.i64.wrap
                                                      (IntKind.i64.wrap (IntKind.i64.wrap (x1 + 1) + 1) + 1) +
                                                    1) +
                                                1)))
                                        (IntKind.i64.wrap
                                          (IntKind.i64.wrap
                                              (IntKind.i64.wrap
                                                  (IntKind.i64.wrap
                                                      (IntKind.i64.wrap (IntKind.i64.wrap (x1 + 1) + 1) + 1) +
                                                    1) +
                                                1) +
                                            1))
                                        (IntKind.i64.wrap (x5 + 1))
else some ((x1, ()), x0, ()) := (loopAt_eq _ _ _ _ _).trans (by kernel_rfl)
noncomputable def S20 (a0 : List ((Int × Int) × (Int × Int) × Int × Int)) (a1 : Int) : Option ((Int × PUnit) × List ((Int × Int) × (Int × Int) × Int × Int) × PUnit) := F20.sem (a0, a1, ())
theorem S20_eq (a0 : List ((Int × Int) × (Int × Int) × Int × Int)) (a1 : Int) : S20 a0 a1 =
  L20_2 a0 a1 0 := by kernel_rfl
noncomputable def E21 : Env := mkEnv C tab20
  [0, 1, 2, 3, 5, 12, 14, 15, 16, 22, 24, 25, 26, 32, 34, 35, 36, 42, 44, 45, 46, 52, 54, 55, 56, 62, 64, 65, 66] 73
  (fun (k : Nat) => bif k == 1000002 then some 35 else none) (fun (x x_1 : Nat) => none)
  [(ty25, Mode.ro), (ty3, Mode.ro)]
noncomputable def K21 := endK C [(ty25, Mode.ro), (ty3, Mode.ro)] [(ty3, 0)] [RV.tmp 4]
noncomputable def L21_2 (x0 : List ((Int × Int) × (Int × Int) × Int × Int)) (x1 : Int) (x5 : Int) : Option ((Int × PUnit) × PUnit) := loopAt E21 [1, 0, 1, 0] (Try.f21.body.getD .skip) K21 [V.d none 0 ty25 x0, V.d none 0 ty3 x1, V.dead, V.dead, V.dead, V.d none 0 (Ty.int IntKind.i64) x5, V.dead, V.dead,
  V.dead, V.dead, V.dead, V.dead, V.dead, V.dead, V.dead, V.dead, V.dead, V.dead, V.dead, V.dead, V.dead, V.dead,
  V.dead, V.dead, V.dead, V.dead, V.dead, V.dead, V.dead, V.dead, V.dead, V.dead, V.dead, V.dead, V.dead, V.dead,
  V.dead, V.dead, V.dead, V.dead, V.dead, V.dead, V.dead, V.dead, V.dead, V.dead, V.dead, V.dead, V.dead, V.dead,
  V.dead, V.dead, V.dead, V.dead, V.dead, V.dead, V.dead, V.dead, V.dead, V.dead, V.dead, V.dead, V.dead, V.dead,
  V.dead, V.dead, V.dead, V.dead, V.dead, V.dead, V.dead, V.dead, V.dead]
theorem L21_2_eq (x0 : List ((Int × Int) × (Int × Int) × Int × Int)) (x1 : Int) (x5 : Int) : L21_2 x0 x1 x5 =
  bif decide (x5 < (↑x0.length : Int)) then
  (getI x0 x5).bind fun (y : (Int × Int) × (Int × Int) × Int × Int) =>
    bif y.fst.fst != x1 then some ((-1, ()), ())
    else
      (getI x0 x5).bind fun (y : (Int × Int) × (Int × Int) × Int × Int) =>
        bif y.fst.snd != IntKind.i64.wrap (x1 + 1) then some ((-1, ()), ())
        else
          (getI x0 x5).bind fun (y : (Int × Int) × (Int × Int) × Int × Int) =>
            bif y.snd.fst.fst != IntKind.i64.wrap (IntKind.i64.wrap (x1 + 1) + 1) then some ((-1, ()), ())
            else
              (getI x0 x5).bind fun (y : (Int × Int) × (Int × Int) × Int × Int) =>
                bif y.snd.fst.snd != IntKind.i64.wrap (IntKind.i64.wrap (IntKind.i64.wrap (x1 + 1) + 1) + 1) then
                  some ((-1, ()), ())
                else
                  (getI x0 x5).bind fun (y : (Int × Int) × (Int × Int) × Int × Int) =>
                    bif
                        y.snd.snd.fst !=
                          IntKind.i64.wrap
                            (IntKind.i64.wrap (IntKind.i64.wrap (IntKind.i64.wrap (x1 + 1) + 1) + 1) + 1) then
                      some ((-1, ()), ())
                    else
                      (getI x0 x5).bind fun (y : (Int × Int) × (Int × Int) × Int × Int) =>
                        bif
                            y.snd.snd.snd !=
                              IntKind.i64.wrap
                                (IntKind.i64.wrap
                                    (IntKind.i64.wrap (IntKind.i64.wrap (IntKind.i64.wrap (x1 + 1) + 1) + 1) + 1) +
                                  1) then
                          some ((-1, ()), ())
                        else
                          L21_2 x0
                            (IntKind.i64.wrap
                              (IntKind.i64.wrap
                                  (IntKind.i64.wrap
                                      (IntKind.i64.wrap (IntKind.i64.wrap (IntKind.i64.wrap (x1 + 1) + 1) + 1) + 1) +
                                    1) +
                                1))
                            (IntKind.i64.wrap (x5 + 1))
else some ((x1, ()), ()) := (loopAt_eq _ _ _ _ _).trans (by kernel_rfl)
noncomputable def S21 (a0 : List ((Int × Int) × (Int × Int) × Int × Int)) (a1 : Int) : Option ((Int × PUnit) × PUnit) := F21.sem (a0, a1, ())
theorem S21_eq (a0 : List ((Int × Int) × (Int × Int) × Int × Int)) (a1 : Int) : S21 a0 a1 =
  L21_2 a0 a1 0 := by kernel_rfl
noncomputable def E4 : Env := mkEnv C tab21 [0, 1, 2, 3, 5, 6, 7, 8, 9, 10, 11, 12, 13, 14, 15, 16, 27, 39, 94] 119 (fun (x : Nat) => none)
  (fun (d i : Nat) =>
    bif d == 27 then bif i == 0 then some 33 else bif i == 1 then some 34 else none
    else
      bif d == 39 then bif i == 0 then some 43 else bif i == 1 then some 44 else none
      else bif d == 94 then bif i == 0 then some 100 else bif i == 1 then some 101 else none else none)
  [(ty22, Mode.ro), (ty22, Mode.ro)]
noncomputable def K4 := endK C [(ty22, Mode.ro), (ty22, Mode.ro)] [(ty4, 0)] [RV.tmp 4]
noncomputable def S4 (a0 : List ((Int × Int) × (Int × Int) × Int × Int)) (a1 : List ((Int × Int) × (Int × Int) × Int × Int)) : Option ((Bool × PUnit) × PUnit) := F4.sem (a0, a1, ())
theorem S4_eq (a0 : List ((Int × Int) × (Int × Int) × Int × Int)) (a1 : List ((Int × Int) × (Int × Int) × Int × Int)) : S4 a0 a1 =
  (S13 a0 1048576).bind fun (y : (Int × PUnit) × PUnit) =>
  bif decide (y.fst.fst < 0) then some ((true, ()), ())
  else
    (S13 a1 y.fst.fst).bind fun (y : (Int × PUnit) × PUnit) =>
      bif decide (y.fst.fst < 0) then some ((true, ()), ())
      else
        (S15 a0).bind fun (y : (List ((Int × Int) × (Int × Int) × Int × Int) × PUnit) × PUnit) =>
          (S15 a1).bind fun (y_1 : (List ((Int × Int) × (Int × Int) × Int × Int) × PUnit) × PUnit) =>
            (S18 y.fst.fst y_1.fst.fst).bind
              fun (y : (List ((Int × Int) × (Int × Int) × Int × Int) × Bool × PUnit) × PUnit) =>
              (S15 a0).bind fun (y_2 : (List ((Int × Int) × (Int × Int) × Int × Int) × PUnit) × PUnit) =>
                (S15 a1).bind fun (y_3 : (List ((Int × Int) × (Int × Int) × Int × Int) × PUnit) × PUnit) =>
                  (S19 y_2.fst.fst y_3.fst.fst).bind
                    fun (y_4 : (List ((Int × Int) × (Int × Int) × Int × Int) × Bool × PUnit) × PUnit) =>
                    (S17 y_4.fst.fst y.fst.fst).bind fun (y_5 : (Bool × PUnit) × PUnit) =>
                      bif !y_5.fst.fst then some ((false, ()), ())
                      else
                        bif !y_4.fst.snd.fst == y.fst.snd.fst then some ((false, ()), ())
                        else
                          (S15 a0).bind fun (y_6 : (List ((Int × Int) × (Int × Int) × Int × Int) × PUnit) × PUnit) =>
                            (S17 y_2.fst.fst y_6.fst.fst).bind fun (y_7 : (Bool × PUnit) × PUnit) =>
                              bif !y_7.fst.fst then some ((false, ()), ())
                              else
                                (S15 a1).bind
                                  fun (y_8 : (List ((Int × Int) × (Int × Int) × Int × Int) × PUnit) × PUnit) =>
                                  (S17 y_3.fst.fst y_8.fst.fst).bind fun (y_9 : (Bool × PUnit) × PUnit) =>
                                    bif !y_9.fst.fst then some ((false, ()), ())
                                    else
                                      (S20 y_2.fst.fst 1).bind
                                        fun
                                          (y_10 :
                                            (Int × PUnit) × List ((Int × Int) × (Int × Int) × Int × Int) × PUnit) =>
                                        (S20 y_3.fst.fst y_10.fst.fst).bind
                                          fun
                                            (y_11 :
                                              (Int × PUnit) × List ((Int × Int) × (Int × Int) × Int × Int) × PUnit) =>
                                          bif decide (y_11.fst.fst < 0) then some ((false, ()), ())
                                          else
                                            (S17 y_4.fst.fst y.fst.fst).bind fun (y_12 : (Bool × PUnit) × PUnit) =>
                                              bif !y_12.fst.fst then some ((false, ()), ())
                                              else
                                                bif !y_4.fst.snd.fst == y.fst.snd.fst then some ((false, ()), ())
                                                else
                                                  (S20 y_4.fst.fst 1).bind
                                                    fun
                                                      (y_13 :
                                                        (Int × PUnit) ×
                                                          List ((Int × Int) × (Int × Int) × Int × Int) × PUnit) =>
                                                    (S21 y_13.snd.fst 1).bind fun (y_14 : (Int × PUnit) × PUnit) =>
                                                      bif decide (y_14.fst.fst < 0) then some ((false, ()), ())
                                                      else
                                                        bif y_14.fst.fst != y_13.fst.fst then some ((false, ()), ())
                                                        else
                                                          (S15 a0).bind
                                                            fun
                                                              (y_15 :
                                                                (List ((Int × Int) × (Int × Int) × Int × Int) × PUnit) ×
                                                                  PUnit) =>
                                                            (S15 a1).bind
                                                              fun
                                                                (y_16 :
                                                                  (List ((Int × Int) × (Int × Int) × Int × Int) ×
                                                                      PUnit) ×
                                                                    PUnit) =>
                                                              (S19 y_15.fst.fst y_16.fst.fst).bind
                                                                fun
                                                                  (y_17 :
                                                                    (List ((Int × Int) × (Int × Int) × Int × Int) ×
                                                                        Bool × PUnit) ×
                                                                      PUnit) =>
                                                                (S17 y_17.fst.fst y.fst.fst).bind
                                                                  fun (y_18 : (Bool × PUnit) × PUnit) =>
                                                                  bif !y_18.fst.fst then some ((false, ()), ())
                                                                  else
                                                                    bif !y_17.fst.snd.fst == y.fst.snd.fst then
                                                                      some ((false, ()), ())
                                                                    else
                                                                      (S21 y_13.snd.fst 1).bind
                                                                        fun (y : (Int × PUnit) × PUnit) =>
                                                                        bif decide (y.fst.fst < 0) then
                                                                          some ((false, ()), ())
                                                                        else
                                                                          bif y.fst.fst != y_13.fst.fst then
                                                                            some ((false, ()), ())
                                                                          else some ((true, ()), ()) := by kernel_rfl
noncomputable def E90 : Env := mkEnv C tab4 [0, 1, 2, 3, 4, 5, 6, 7, 8] 40 (fun (k : Nat) => bif k == 1000007 then some 115 else none)
  (fun (x x_1 : Nat) => none) [(ty3, Mode.ro), (ty3, Mode.ro)]
noncomputable def K90 := endK C [(ty3, Mode.ro), (ty3, Mode.ro)] [(ty36, 0)] [RV.cell 4 36]
noncomputable def L90_7 (x0 : Int) (x1 : Int) (x4 : Int × Int) (x5 : Int) (x6 : Int) : Option (((Int × Int) × PUnit) × PUnit) := loopAt E90 [1, 1, 1, 1, 1, 0, 0] (Try.f90.body.getD .skip) K90 [V.d none 0 (Ty.int IntKind.i64) x0, V.d none 0 (Ty.int IntKind.i64) x1, V.dead, V.dead, V.box none ty36.depth ty36 x4,
  V.d none 0 (Ty.int IntKind.i64) x5, V.d none 0 (Ty.int IntKind.i64) x6, V.dead, V.dead, V.dead, V.dead, V.dead,
  V.dead, V.dead, V.dead, V.dead, V.dead, V.dead, V.dead, V.dead, V.dead, V.dead, V.dead, V.dead, V.dead, V.dead,
  V.dead, V.dead, V.dead, V.dead, V.dead, V.dead, V.dead, V.dead, V.dead, V.dead, V.dead, V.dead, V.dead, V.dead]
theorem L90_7_eq (x0 : Int) (x1 : Int) (x4 : Int × Int) (x5 : Int) (x6 : Int) : L90_7 x0 x1 x4 x5 x6 =
  bif x6 != 0 then bif x6 != 0 then L90_7 x0 x1 x4 x6 (x5.tmod x6) else none
else
  (S124 x5).bind fun (y : (Int × PUnit) × PUnit) =>
    bif y.fst.fst != 0 then
      bif y.fst.fst != 0 then
        (S60 (IntKind.i64.wrap (x0.tdiv y.fst.fst), IntKind.i64.wrap (x1.tdiv y.fst.fst))).bind
          fun (y_1 : (Bool × PUnit) × PUnit) =>
          bif !y_1.fst.fst then some (((ty3.zero, (Ty.int IntKind.i64).zero), ()), ())
          else some (((IntKind.i64.wrap (x0.tdiv y.fst.fst), IntKind.i64.wrap (x1.tdiv y.fst.fst)), ()), ())
      else none
    else none := (loopAt_eq _ _ _ _ _).trans (by kernel_rfl)
noncomputable def S90 (a0 : Int) (a1 : Int) : Option (((Int × Int) × PUnit) × PUnit) := F90.sem (a0, a1, ())
theorem S90_eq (a0 : Int) (a1 : Int) : S90 a0 a1 =
  bif a1 == 0 then some (((ty3.zero, (Ty.int IntKind.i64).zero), ()), ())
else
  bif decide (a1 < 0) then
    L90_7 (IntKind.i64.wrap (0 - a0)) (IntKind.i64.wrap (0 - a1)) ty36.zero (IntKind.i64.wrap (0 - a0))
      (IntKind.i64.wrap (0 - a1))
  else L90_7 a0 a1 ty36.zero a0 a1 := by kernel_rfl
noncomputable def E42 : Env := mkEnv C tab90 [0, 1, 2, 3, 4, 14, 16, 19, 21, 25, 27] 31 (fun (x : Nat) => none) (fun (x x_1 : Nat) => none)
  [(ty36, Mode.ro), (ty36, Mode.ro)]
noncomputable def K42 := endK C [(ty36, Mode.ro), (ty36, Mode.ro)] [(ty36, 0)] [RV.cell 4 36]
noncomputable def S42 (a0 : Int × Int) (a1 : Int × Int) : Option (((Int × Int) × PUnit) × PUnit) := F42.sem (a0, a1, ())
theorem S42_eq (a0 : Int × Int) (a1 : Int × Int) : S42 a0 a1 =
  (S60 a0).bind fun (y : (Bool × PUnit) × PUnit) =>
  bif !y.fst.fst then some (((ty3.zero, (Ty.int IntKind.i64).zero), ()), ())
  else
    (S60 a1).bind fun (y : (Bool × PUnit) × PUnit) =>
      bif !y.fst.fst then some (((ty3.zero, (Ty.int IntKind.i64).zero), ()), ())
      else
        (S90 (IntKind.i64.wrap (IntKind.i64.wrap (a0.fst * a1.snd) + IntKind.i64.wrap (a1.fst * a0.snd)))
              (IntKind.i64.wrap (a0.snd * a1.snd))).bind
          fun (y : ((Int × Int) × PUnit) × PUnit) => some ((y.fst.fst, ()), ()) := by kernel_rfl
noncomputable def E22 : Env := mkEnv C tab42 [0, 1, 2, 3, 4, 5, 6, 7, 10, 11, 24, 26, 27, 31, 33, 34, 38, 40, 41] 53
  (fun (k : Nat) => bif k == 1000003 then some 3297 else none) (fun (x x_1 : Nat) => none)
  [(ty25, Mode.ro), (ty36, Mode.ro), (ty36, Mode.ro), (ty36, Mode.ro)]
noncomputable def K22 := endK C [(ty25, Mode.ro), (ty36, Mode.ro), (ty36, Mode.ro), (ty36, Mode.ro)] [(ty25, 1), (ty4, 0)] [RV.tmp 8, RV.tmp 9]
noncomputable def L22_3 (x0 : List ((Int × Int) × (Int × Int) × Int × Int)) (x5 : Int × Int) (x6 : Int × Int) (x7 : Int × Int) (x10 : List ((Int × Int) × (Int × Int) × Int × Int)) (x11 : Int) : Option ((List ((Int × Int) × (Int × Int) × Int × Int) × Bool × PUnit) × PUnit) := loopAt E22 [1, 1, 0, 1, 0] (Try.f22.body.getD .skip) K22 [V.d none 0 ty25 x0, V.dead, V.dead, V.dead, V.dead, V.box none 0 ty36 x5, V.box none 0 ty36 x6, V.box none 0 ty36 x7,
  V.dead, V.dead, V.d none (ty77.depth + 1) (Ty.slice 77 ty77) x10, V.d none 0 (Ty.int IntKind.i64) x11, V.dead, V.dead,
  V.dead, V.dead, V.dead, V.dead, V.dead, V.dead, V.dead, V.dead, V.dead, V.dead, V.dead, V.dead, V.dead, V.dead,
  V.dead, V.dead, V.dead, V.dead, V.dead, V.dead, V.dead, V.dead, V.dead, V.dead, V.dead, V.dead, V.dead, V.dead,
  V.dead, V.dead, V.dead, V.dead, V.dead, V.dead, V.dead, V.dead, V.dead, V.dead, V.dead]
theorem L22_3_eq (x0 : List ((Int × Int) × (Int × Int) × Int × Int)) (x5 : Int × Int) (x6 : Int × Int) (x7 : Int × Int) (x10 : List ((Int × Int) × (Int × Int) × Int × Int)) (x11 : Int) : L22_3 x0 x5 x6 x7 x10 x11 =
  bif decide (x11 < (↑x0.length : Int)) then
  (S14 x0).bind fun (y : (Bool × PUnit) × PUnit) =>
    bif y.fst.fst then
      (getI x0 x11).bind fun (y : (Int × Int) × (Int × Int) × Int × Int) =>
        (S42 y.fst x5).bind fun (y : ((Int × Int) × PUnit) × PUnit) =>
          (getI x0 x11).bind fun (y_1 : (Int × Int) × (Int × Int) × Int × Int) =>
            (S42 y_1.snd.fst x6).bind fun (y_2 : ((Int × Int) × PUnit) × PUnit) =>
              (getI x0 x11).bind fun (y_3 : (Int × Int) × (Int × Int) × Int × Int) =>
                (S42 y_3.snd.snd x7).bind fun (y_4 : ((Int × Int) × PUnit) × PUnit) =>
                  bif decide ((x10.length + [(y.fst.fst, y_2.fst.fst, y_4.fst.fst)].length) * 48 ≤ 140737488355328) then
                    L22_3 x0 x5 x6 x7 (x10 ++ [(y.fst.fst, y_2.fst.fst, y_4.fst.fst)]) (IntKind.i64.wrap (x11 + 1))
                  else none
    else
      (S14 x10).bind fun (y : (Bool × PUnit) × PUnit) =>
        bif !y.fst.fst then some (([], false, ()), ()) else some ((x10, true, ()), ())
else
  (S14 x10).bind fun (y : (Bool × PUnit) × PUnit) =>
    bif !y.fst.fst then some (([], false, ()), ()) else some ((x10, true, ()), ()) := (loopAt_eq _ _ _ _ _).trans (by kernel_rfl)
noncomputable def S22 (a0 : List ((Int × Int) × (Int × Int) × Int × Int)) (a1 : Int × Int) (a2 : Int × Int) (a3 : Int × Int) : Option ((List ((Int × Int) × (Int × Int) × Int × Int) × Bool × PUnit) × PUnit) := F22.sem (a0, a1, a2, a3, ())
theorem S22_eq (a0 : List ((Int × Int) × (Int × Int) × Int × Int)) (a1 : Int × Int) (a2 : Int × Int) (a3 : Int × Int) : S22 a0 a1 a2 a3 =
  L22_3 a0 a1 a2 a3 [] 0 := by kernel_rfl
noncomputable def E107 : Env := mkEnv C tab22 [0, 1, 2, 3, 4, 5, 6] 31 (fun (x : Nat) => none) (fun (x x_1 : Nat) => none)
  [(ty3, Mode.ro), (ty3, Mode.ro)]
noncomputable def K107 := endK C [(ty3, Mode.ro), (ty3, Mode.ro)] [(ty36, 0)] [RV.cell 4 36]
noncomputable def S107 (a0 : Int) (a1 : Int) : Option (((Int × Int) × PUnit) × PUnit) := F107.sem (a0, a1, ())
theorem S107_eq (a0 : Int) (a1 : Int) : S107 a0 a1 =
  bif a1 == 0 then some (((ty3.zero, (Ty.int IntKind.i64).zero), ()), ())
else
  bif decide (a1 < 0) then
    (S114 (IntKind.i64.wrap (0 - a0)) (IntKind.i64.wrap (0 - a1))).bind fun (y : (Int × PUnit) × PUnit) =>
      bif y.fst.fst != 0 then
        bif y.fst.fst != 0 then
          (S64
                (IntKind.i64.wrap ((IntKind.i64.wrap (0 - a0)).tdiv y.fst.fst),
                  IntKind.i64.wrap ((IntKind.i64.wrap (0 - a1)).tdiv y.fst.fst))).bind
            fun (y_1 : (Bool × PUnit) × PUnit) =>
            bif !y_1.fst.fst then some (((ty3.zero, (Ty.int IntKind.i64).zero), ()), ())
            else
              some
                (((IntKind.i64.wrap ((IntKind.i64.wrap (0 - a0)).tdiv y.fst.fst),
                      IntKind.i64.wrap ((IntKind.i64.wrap (0 - a1)).tdiv y.fst.fst)),
                    ()),
                  ())
        else none
      else none
  else
    (S114 a0 a1).bind fun (y : (Int × PUnit) × PUnit) =>
      bif y.fst.fst != 0 then
        bif y.fst.fst != 0 then
          (S64 (IntKind.i64.wrap (a0.tdiv y.fst.fst), IntKind.i64.wrap (a1.tdiv y.fst.fst))).bind
            fun (y_1 : (Bool × PUnit) × PUnit) =>
            bif !y_1.fst.fst then some (((ty3.zero, (Ty.int IntKind.i64).zero), ()), ())
            else some (((IntKind.i64.wrap (a0.tdiv y.fst.fst), IntKind.i64.wrap (a1.tdiv y.fst.fst)), ()), ())
        else none
      else none := by kernel_rfl
noncomputable def E66 : Env := mkEnv C tab107 [0, 1, 2, 3, 4, 14, 16, 19, 21, 25, 27] 31 (fun (x : Nat) => none) (fun (x x_1 : Nat) => none)
  [(ty36, Mode.ro), (ty36, Mode.ro)]
noncomputable def K66 := endK C [(ty36, Mode.ro), (ty36, Mode.ro)] [(ty36, 0)] [RV.cell 4 36]
noncomputable def S66 (a0 : Int × Int) (a1 : Int × Int) : Option (((Int × Int) × PUnit) × PUnit) := F66.sem (a0, a1, ())
theorem S66_eq (a0 : Int × Int) (a1 : Int × Int) : S66 a0 a1 =
  (S64 a0).bind fun (y : (Bool × PUnit) × PUnit) =>
  bif !y.fst.fst then some (((ty3.zero, (Ty.int IntKind.i64).zero), ()), ())
  else
    (S64 a1).bind fun (y : (Bool × PUnit) × PUnit) =>
      bif !y.fst.fst then some (((ty3.zero, (Ty.int IntKind.i64).zero), ()), ())
      else
        (S107 (IntKind.i64.wrap (IntKind.i64.wrap (a0.fst * a1.snd) + IntKind.i64.wrap (a1.fst * a0.snd)))
              (IntKind.i64.wrap (a0.snd * a1.snd))).bind
          fun (y : ((Int × Int) × PUnit) × PUnit) => some ((y.fst.fst, ()), ()) := by kernel_rfl
noncomputable def E24 : Env := mkEnv C tab66 [0, 1, 2, 3, 4, 5, 6, 7, 10, 11, 12, 17, 21, 24, 28, 32] 44
  (fun (k : Nat) => bif k == 1000005 then some 918753 else none) (fun (x x_1 : Nat) => none)
  [(ty25, Mode.ro), (ty36, Mode.ro), (ty36, Mode.ro), (ty36, Mode.ro)]
noncomputable def K24 := endK C [(ty25, Mode.ro), (ty36, Mode.ro), (ty36, Mode.ro), (ty36, Mode.ro)] [(ty25, 1), (ty4, 0)] [RV.tmp 8, RV.tmp 9]
noncomputable def L24_5 (x0 : List ((Int × Int) × (Int × Int) × Int × Int)) (x5 : Int × Int) (x6 : Int × Int) (x7 : Int × Int) (x10 : List ((Int × Int) × (Int × Int) × Int × Int)) (x17 : List ((Int × Int) × (Int × Int) × Int × Int)) (x18 : Int) (x19 : Int) : Option ((List ((Int × Int) × (Int × Int) × Int × Int) × Bool × PUnit) × PUnit) := loopAt E24 [1, 1, 1, 0, 1, 0] (Try.f24.body.getD .skip) K24 [V.d none 0 ty25 x0, V.dead, V.dead, V.dead, V.dead, V.box none 0 ty36 x5, V.box none 0 ty36 x6, V.box none 0 ty36 x7,
  V.dead, V.dead, V.d none (ty77.depth + 1) (Ty.slice 77 ty77) x10, V.dead, V.dead, V.dead, V.dead, V.dead, V.dead,
  V.d none 0 ty25 x17, V.d none 0 (Ty.int IntKind.i64) x18, V.d none 0 (Ty.int IntKind.i64) x19, V.dead, V.dead, V.dead,
  V.dead, V.dead, V.dead, V.dead, V.dead, V.dead, V.dead, V.dead, V.dead, V.dead, V.dead, V.dead, V.dead, V.dead,
  V.dead, V.dead, V.dead, V.dead, V.dead, V.dead, V.dead]
theorem L24_5_eq (x0 : List ((Int × Int) × (Int × Int) × Int × Int)) (x5 : Int × Int) (x6 : Int × Int) (x7 : Int × Int) (x10 : List ((Int × Int) × (Int × Int) × Int × Int)) (x17 : List ((Int × Int) × (Int × Int) × Int × Int)) (x18 : Int) (x19 : Int) : L24_5 x0 x5 x6 x7 x10 x17 x18 x19 =
  bif decide (x19 < x18) then
  (getI x17 x19).bind fun (y : (Int × Int) × (Int × Int) × Int × Int) =>
    (S66 y.fst x5).bind fun (y_1 : ((Int × Int) × PUnit) × PUnit) =>
      (S66 y.snd.fst x6).bind fun (y_2 : ((Int × Int) × PUnit) × PUnit) =>
        (S66 y.snd.snd x7).bind fun (y : ((Int × Int) × PUnit) × PUnit) =>
          bif decide ((x10.length + [(y_1.fst.fst, y_2.fst.fst, y.fst.fst)].length) * 48 ≤ 140737488355328) then
            L24_5 x0 x5 x6 x7 (x10 ++ [(y_1.fst.fst, y_2.fst.fst, y.fst.fst)]) x17 x18 (IntKind.i64.wrap (x19 + 1))
          else none
else
  (S16 x10).bind fun (y : (Bool × PUnit) × PUnit) =>
    bif !y.fst.fst then some (([], false, ()), ()) else some ((x10, true, ()), ()) := (loopAt_eq _ _ _ _ _).trans (by kernel_rfl)
noncomputable def S24 (a0 : List ((Int × Int) × (Int × Int) × Int × Int)) (a1 : Int × Int) (a2 : Int × Int) (a3 : Int × Int) : Option ((List ((Int × Int) × (Int × Int) × Int × Int) × Bool × PUnit) × PUnit) := F24.sem (a0, a1, a2, a3, ())
theorem S24_eq (a0 : List ((Int × Int) × (Int × Int) × Int × Int)) (a1 : Int × Int) (a2 : Int × Int) (a3 : Int × Int) : S24 a0 a1 a2 a3 =
  (S16 a0).bind fun (y : (Bool × PUnit) × PUnit) =>
  bif !y.fst.fst then some (([], false, ()), ()) else L24_5 a0 a1 a2 a3 [] a0 (↑a0.length : Int) 0 := by kernel_rfl
noncomputable def E5 : Env := mkEnv C tab24 [0, 1, 2, 3, 4, 5, 6, 7, 9, 10, 11, 12, 13, 14, 15, 16, 17, 18, 19, 25, 39, 91] 120
  (fun (x : Nat) => none)
  (fun (d i : Nat) =>
    bif d == 25 then bif i == 0 then some 35 else bif i == 1 then some 36 else none
    else
      bif d == 39 then bif i == 0 then some 48 else bif i == 1 then some 49 else none
      else bif d == 91 then bif i == 0 then some 101 else bif i == 1 then some 102 else none else none)
  [(ty22, Mode.ro), (ty34, Mode.ro), (ty34, Mode.ro), (ty34, Mode.ro)]
noncomputable def K5 := endK C [(ty22, Mode.ro), (ty34, Mode.ro), (ty34, Mode.ro), (ty34, Mode.ro)] [(ty4, 0)] [RV.tmp 8]
noncomputable def S5 (a0 : List ((Int × Int) × (Int × Int) × Int × Int)) (a1 : Int × Int) (a2 : Int × Int) (a3 : Int × Int) : Option ((Bool × PUnit) × PUnit) := F5.sem (a0, a1, a2, a3, ())
theorem S5_eq (a0 : List ((Int × Int) × (Int × Int) × Int × Int)) (a1 : Int × Int) (a2 : Int × Int) (a3 : Int × Int) : S5 a0 a1 a2 a3 =
  (S13 a0 1048576).bind fun (y : (Int × PUnit) × PUnit) =>
  bif decide (y.fst.fst < 0) then some ((true, ()), ())
  else
    (S15 a0).bind fun (y : (List ((Int × Int) × (Int × Int) × Int × Int) × PUnit) × PUnit) =>
      (S23 a1).bind fun (y_1 : ((Int × Int) × PUnit) × PUnit) =>
        (S23 a2).bind fun (y_2 : ((Int × Int) × PUnit) × PUnit) =>
          (S23 a3).bind fun (y_3 : ((Int × Int) × PUnit) × PUnit) =>
            (S22 y.fst.fst y_1.fst.fst y_2.fst.fst y_3.fst.fst).bind
              fun (y : (List ((Int × Int) × (Int × Int) × Int × Int) × Bool × PUnit) × PUnit) =>
              (S15 a0).bind fun (y_4 : (List ((Int × Int) × (Int × Int) × Int × Int) × PUnit) × PUnit) =>
                (S23 a1).bind fun (y_5 : ((Int × Int) × PUnit) × PUnit) =>
                  (S23 a2).bind fun (y_6 : ((Int × Int) × PUnit) × PUnit) =>
                    (S23 a3).bind fun (y_7 : ((Int × Int) × PUnit) × PUnit) =>
                      (S24 y_4.fst.fst y_5.fst.fst y_6.fst.fst y_7.fst.fst).bind
                        fun (y_8 : (List ((Int × Int) × (Int × Int) × Int × Int) × Bool × PUnit) × PUnit) =>
                        (S17 y_8.fst.fst y.fst.fst).bind fun (y_9 : (Bool × PUnit) × PUnit) =>
                          bif !y_9.fst.fst then some ((false, ()), ())
                          else
                            bif !y_8.fst.snd.fst == y.fst.snd.fst then some ((false, ()), ())
                            else
                              (S15 a0).bind
                                fun (y_10 : (List ((Int × Int) × (Int × Int) × Int × Int) × PUnit) × PUnit) =>
                                (S17 y_4.fst.fst y_10.fst.fst).bind fun (y_11 : (Bool × PUnit) × PUnit) =>
                                  bif !y_11.fst.fst then some ((false, ()), ())
                                  else
                                    (S20 y_4.fst.fst 1).bind
                                      fun
                                        (y_12 : (Int × PUnit) × List ((Int × Int) × (Int × Int) × Int × Int) × PUnit) =>
                                      bif decide (y_12.fst.fst < 0) then some ((false, ()), ())
                                      else
                                        (S17 y_8.fst.fst y.fst.fst).bind fun (y_13 : (Bool × PUnit) × PUnit) =>
                                          bif !y_13.fst.fst then some ((false, ()), ())
                                          else
                                            bif !y_8.fst.snd.fst == y.fst.snd.fst then some ((false, ()), ())
                                            else
                                              (S20 y_8.fst.fst 1).bind
                                                fun
                                                  (y_14 :
                                                    (Int × PUnit) ×
                                                      List ((Int × Int) × (Int × Int) × Int × Int) × PUnit) =>
                                                (S21 y_14.snd.fst 1).bind fun (y_15 : (Int × PUnit) × PUnit) =>
                                                  bif decide (y_15.fst.fst < 0) then some ((false, ()), ())
                                                  else
                                                    bif y_15.fst.fst != y_14.fst.fst then some ((false, ()), ())
                                                    else
                                                      (S15 a0).bind
                                                        fun
                                                          (y_16 :
                                                            (List ((Int × Int) × (Int × Int) × Int × Int) × PUnit) ×
                                                              PUnit) =>
                                                        (S23 a1).bind fun (y_17 : ((Int × Int) × PUnit) × PUnit) =>
                                                          (S23 a2).bind fun (y_18 : ((Int × Int) × PUnit) × PUnit) =>
                                                            (S23 a3).bind fun (y_19 : ((Int × Int) × PUnit) × PUnit) =>
                                                              (S24 y_16.fst.fst y_17.fst.fst y_18.fst.fst
                                                                    y_19.fst.fst).bind
                                                                fun
                                                                  (y_20 :
                                                                    (List ((Int × Int) × (Int × Int) × Int × Int) ×
                                                                        Bool × PUnit) ×
                                                                      PUnit) =>
                                                                (S17 y_20.fst.fst y.fst.fst).bind
                                                                  fun (y_21 : (Bool × PUnit) × PUnit) =>
                                                                  bif !y_21.fst.fst then some ((false, ()), ())
                                                                  else
                                                                    bif !y_20.fst.snd.fst == y.fst.snd.fst then
                                                                      some ((false, ()), ())
                                                                    else
                                                                      (S21 y_14.snd.fst 1).bind
                                                                        fun (y : (Int × PUnit) × PUnit) =>
                                                                        bif decide (y.fst.fst < 0) then
                                                                          some ((false, ()), ())
                                                                        else
                                                                          bif y.fst.fst != y_14.fst.fst then
                                                                            some ((false, ()), ())
                                                                          else some ((true, ()), ()) := by kernel_rfl
noncomputable def E67 : Env := mkEnv C tab5 [0, 1, 2] 5 (fun (x : Nat) => none) (fun (x x_1 : Nat) => none) [(ty3, Mode.ro)]
noncomputable def K67 := endK C [(ty3, Mode.ro)] [(ty36, 0)] [RV.cell 2 36]
noncomputable def S67 (a0 : Int) : Option (((Int × Int) × PUnit) × PUnit) := F67.sem (a0, ())
theorem S67_eq (a0 : Int) : S67 a0 =
  some (((a0, 1), ()), ()) := by kernel_rfl
noncomputable def E69 : Env := mkEnv C tab67 [0, 1, 2, 7, 10] 13 (fun (x : Nat) => none) (fun (x x_1 : Nat) => none) [(ty36, Mode.ro)]
noncomputable def K69 := endK C [(ty36, Mode.ro)] [(ty36, 0)] [RV.cell 2 36]
noncomputable def S69 (a0 : Int × Int) : Option (((Int × Int) × PUnit) × PUnit) := F69.sem (a0, ())
theorem S69_eq (a0 : Int × Int) : S69 a0 =
  (S60 a0).bind fun (y : (Bool × PUnit) × PUnit) =>
  bif !y.fst.fst then some (((ty3.zero, (Ty.int IntKind.i64).zero), ()), ())
  else some (((IntKind.i64.wrap (0 - a0.fst), a0.snd), ()), ()) := by kernel_rfl
noncomputable def E132 : Env := mkEnv C tab69 [0, 1, 2, 3, 4, 14, 19, 21, 24, 26] 30 (fun (x : Nat) => none) (fun (x x_1 : Nat) => none)
  [(ty36, Mode.ro), (ty36, Mode.ro)]
noncomputable def K132 := endK C [(ty36, Mode.ro), (ty36, Mode.ro)] [(ty36, 0)] [RV.cell 4 36]
noncomputable def S132 (a0 : Int × Int) (a1 : Int × Int) : Option (((Int × Int) × PUnit) × PUnit) := F132.sem (a0, a1, ())
theorem S132_eq (a0 : Int × Int) (a1 : Int × Int) : S132 a0 a1 =
  (S60 a0).bind fun (y : (Bool × PUnit) × PUnit) =>
  bif !y.fst.fst then some (((ty3.zero, (Ty.int IntKind.i64).zero), ()), ())
  else
    (S60 a1).bind fun (y : (Bool × PUnit) × PUnit) =>
      bif !y.fst.fst then some (((ty3.zero, (Ty.int IntKind.i64).zero), ()), ())
      else
        bif a1.fst == 0 then some (((ty3.zero, (Ty.int IntKind.i64).zero), ()), ())
        else
          (S90 (IntKind.i64.wrap (a0.fst * a1.snd)) (IntKind.i64.wrap (a0.snd * a1.fst))).bind
            fun (y : ((Int × Int) × PUnit) × PUnit) => some ((y.fst.fst, ()), ()) := by kernel_rfl
noncomputable def E125 : Env := mkEnv C tab132 [0, 1, 2, 3, 4, 14, 16, 19, 21] 25 (fun (x : Nat) => none) (fun (x x_1 : Nat) => none)
  [(ty36, Mode.ro), (ty36, Mode.ro)]
noncomputable def K125 := endK C [(ty36, Mode.ro), (ty36, Mode.ro)] [(ty36, 0)] [RV.cell 4 36]
noncomputable def S125 (a0 : Int × Int) (a1 : Int × Int) : Option (((Int × Int) × PUnit) × PUnit) := F125.sem (a0, a1, ())
theorem S125_eq (a0 : Int × Int) (a1 : Int × Int) : S125 a0 a1 =
  (S60 a0).bind fun (y : (Bool × PUnit) × PUnit) =>
  bif !y.fst.fst then some (((ty3.zero, (Ty.int IntKind.i64).zero), ()), ())
  else
    (S60 a1).bind fun (y : (Bool × PUnit) × PUnit) =>
      bif !y.fst.fst then some (((ty3.zero, (Ty.int IntKind.i64).zero), ()), ())
      else
        (S90 (IntKind.i64.wrap (a0.fst * a1.fst)) (IntKind.i64.wrap (a0.snd * a1.snd))).bind
          fun (y : ((Int × Int) × PUnit) × PUnit) => some ((y.fst.fst, ()), ()) := by kernel_rfl
noncomputable def E108 : Env := mkEnv C tab125 [0, 1, 2, 3, 4, 5, 6, 7, 8, 9] 27 (fun (x : Nat) => none) (fun (x x_1 : Nat) => none)
  [(ty36, Mode.ro), (ty36, Mode.ro), (ty36, Mode.ro), (ty36, Mode.ro)]
noncomputable def K108 := endK C [(ty36, Mode.ro), (ty36, Mode.ro), (ty36, Mode.ro), (ty36, Mode.ro)] [(ty100, 0)] [RV.cell 8 100]
noncomputable def S108 (a0 : Int × Int) (a1 : Int × Int) (a2 : Int × Int) (a3 : Int × Int) : Option ((((Int × Int) × Int × Int) × PUnit) × PUnit) := F108.sem (a0, a1, a2, a3, ())
theorem S108_eq (a0 : Int × Int) (a1 : Int × Int) (a2 : Int × Int) (a3 : Int × Int) : S108 a0 a1 a2 a3 =
  (S69 a1).bind fun (y : ((Int × Int) × PUnit) × PUnit) =>
  (S42 a3 y.fst.fst).bind fun (y : ((Int × Int) × PUnit) × PUnit) =>
    (S69 a0).bind fun (y_1 : ((Int × Int) × PUnit) × PUnit) =>
      (S42 a2 y_1.fst.fst).bind fun (y_2 : ((Int × Int) × PUnit) × PUnit) =>
        (S132 y.fst.fst y_2.fst.fst).bind fun (y : ((Int × Int) × PUnit) × PUnit) =>
          (S125 y.fst.fst a0).bind fun (y_3 : ((Int × Int) × PUnit) × PUnit) =>
            (S69 y_3.fst.fst).bind fun (y_4 : ((Int × Int) × PUnit) × PUnit) =>
              (S42 a1 y_4.fst.fst).bind fun (y_5 : ((Int × Int) × PUnit) × PUnit) =>
                some (((y.fst.fst, y_5.fst.fst), ()), ()) := by kernel_rfl
noncomputable def E68 : Env := mkEnv C tab108 [0, 1, 2, 3, 4, 5, 7, 8, 9, 11, 13, 15, 18, 20, 22, 24, 29, 33, 38, 43] 47 (fun (x : Nat) => none)
  (fun (x x_1 : Nat) => none) [(ty77, Mode.ro), (ty77, Mode.ro)]
noncomputable def K68 := endK C [(ty77, Mode.ro), (ty77, Mode.ro)] [(ty100, 0), (ty100, 0), (ty4, 0)] [RV.cell 4 100, RV.cell 5 100, RV.tmp 6]
noncomputable def S68 (a0 : (Int × Int) × (Int × Int) × Int × Int) (a1 : (Int × Int) × (Int × Int) × Int × Int) : Option ((((Int × Int) × Int × Int) × ((Int × Int) × Int × Int) × Bool × PUnit) × PUnit) := F68.sem (a0, a1, ())
theorem S68_eq (a0 : (Int × Int) × (Int × Int) × Int × Int) (a1 : (Int × Int) × (Int × Int) × Int × Int) : S68 a0 a1 =
  (S108 a0.fst a0.snd.fst a1.fst a1.snd.fst).bind fun (y : (((Int × Int) × Int × Int) × PUnit) × PUnit) =>
  (S108 a0.fst a0.snd.snd a1.fst a1.snd.snd).bind fun (y_1 : (((Int × Int) × Int × Int) × PUnit) × PUnit) =>
    (S60 y.fst.fst.fst).bind fun (y_2 : (Bool × PUnit) × PUnit) =>
      bif y_2.fst.fst then
        (S60 y.fst.fst.snd).bind fun (y_3 : (Bool × PUnit) × PUnit) =>
          bif y_3.fst.fst then
            (S60 y_1.fst.fst.fst).bind fun (y_4 : (Bool × PUnit) × PUnit) =>
              bif y_4.fst.fst then
                (S60 y_1.fst.fst.snd).bind fun (y_5 : (Bool × PUnit) × PUnit) =>
                  some ((y.fst.fst, y_1.fst.fst, y_5.fst.fst, ()), ())
              else some ((y.fst.fst, y_1.fst.fst, false, ()), ())
          else some ((y.fst.fst, y_1.fst.fst, false, ()), ())
      else some ((y.fst.fst, y_1.fst.fst, false, ()), ()) := by kernel_rfl
noncomputable def E25 : Env := mkEnv C tab68 [0, 1, 2, 4, 5, 6, 7, 8, 9, 10, 22, 23, 26, 28, 30, 39, 41, 43, 47, 49] 60
  (fun (k : Nat) => bif k == 1000005 then some 53 else bif k == 1000011 then some 61572651155509 else none)
  (fun (d i : Nat) =>
    bif d == 22 then bif i == 0 then some 33 else bif i == 1 then some 34 else bif i == 2 then some 35 else none
    else none)
  [(ty25, Mode.ro)]
noncomputable def K25 := endK C [(ty25, Mode.ro)] [(ty36, 0), (ty4, 0)] [RV.cell 2 36, RV.tmp 3]
noncomputable def L25_11 (x0 : List ((Int × Int) × (Int × Int) × Int × Int)) (x2 : Int × Int) (x4 : Int × Int) (x5 : Int) (x43 : List (Int × Int)) (x44 : Int) (x45 : Int) : Option (((Int × Int) × Bool × PUnit) × PUnit) := loopAt E25 [1, 1, 1, 0, 1, 0, 0, 1, 0, 0, 1, 1, 1, 0] (Try.f25.body.getD .skip) K25 [V.d none 0 ty25 x0, V.dead, V.box none ty36.depth ty36 x2, V.dead, V.box none ty36.depth ty36 x4,
  V.d none 0 (Ty.int IntKind.i64) x5, V.dead, V.dead, V.dead, V.dead, V.dead, V.dead, V.dead, V.dead, V.dead, V.dead,
  V.dead, V.dead, V.dead, V.dead, V.dead, V.dead, V.dead, V.dead, V.dead, V.dead, V.dead, V.dead, V.dead, V.dead,
  V.dead, V.dead, V.dead, V.dead, V.dead, V.dead, V.dead, V.dead, V.dead, V.dead, V.dead, V.dead, V.dead,
  V.d none ((minO none (minO none none)).getD ty36.depth + 1) (Ty.slice 36 ty36) x43,
  V.d none 0 (Ty.int IntKind.i64) x44, V.d none 0 (Ty.int IntKind.i64) x45, V.dead, V.dead, V.dead, V.dead, V.dead,
  V.dead, V.dead, V.dead, V.dead, V.dead, V.dead, V.dead, V.dead, V.dead]
noncomputable def L25_5 (x0 : List ((Int × Int) × (Int × Int) × Int × Int)) (x2 : Int × Int) (x4 : Int × Int) (x5 : Int) : Option (((Int × Int) × Bool × PUnit) × PUnit) := loopAt E25 [1, 1, 1, 0, 1, 0] (Try.f25.body.getD .skip) K25 [V.d none 0 ty25 x0, V.dead, V.box none ty36.depth ty36 x2, V.dead, V.box none ty36.depth ty36 x4,
  V.d none 0 (Ty.int IntKind.i64) x5, V.dead, V.dead, V.dead, V.dead, V.dead, V.dead, V.dead, V.dead, V.dead, V.dead,
  V.dead, V.dead, V.dead, V.dead, V.dead, V.dead, V.dead, V.dead, V.dead, V.dead, V.dead, V.dead, V.dead, V.dead,
  V.dead, V.dead, V.dead, V.dead, V.dead, V.dead, V.dead, V.dead, V.dead, V.dead, V.dead, V.dead, V.dead, V.dead,
  V.dead, V.dead, V.dead, V.dead, V.dead, V.dead, V.dead, V.dead, V.dead, V.dead, V.dead, V.dead, V.dead, V.dead,
  V.dead, V.dead]
theorem L25_11_eq (x0 : List ((Int × Int) × (Int × Int) × Int × Int)) (x2 : Int × Int) (x4 : Int × Int) (x5 : Int) (x43 : List (Int × Int)) (x44 : Int) (x45 : Int) : L25_11 x0 x2 x4 x5 x43 x44 x45 =
  bif decide (x45 < x44) then
  (getI x43 x45).bind fun (y : Int × Int) =>
    (getI x43 x45).bind fun (y : Int × Int) =>
      bif decide (y.fst < 0) then
        (S69 y).bind fun (y : ((Int × Int) × PUnit) × PUnit) =>
          (S61 x4 y.fst.fst).bind fun (y_1 : (Bool × PUnit) × PUnit) =>
            bif y_1.fst.fst then L25_11 x0 x2 y.fst.fst x5 x43 x44 (IntKind.i64.wrap (x45 + 1))
            else L25_11 x0 x2 x4 x5 x43 x44 (IntKind.i64.wrap (x45 + 1))
      else
        (S61 x4 y).bind fun (y_1 : (Bool × PUnit) × PUnit) =>
          bif y_1.fst.fst then L25_11 x0 x2 y x5 x43 x44 (IntKind.i64.wrap (x45 + 1))
          else L25_11 x0 x2 x4 x5 x43 x44 (IntKind.i64.wrap (x45 + 1))
else L25_5 x0 x2 x4 (IntKind.i64.wrap (x5 + 1)) := (loopAt_eq _ _ _ _ _).trans (by kernel_rfl)
theorem L25_5_eq (x0 : List ((Int × Int) × (Int × Int) × Int × Int)) (x2 : Int × Int) (x4 : Int × Int) (x5 : Int) : L25_5 x0 x2 x4 x5 =
  bif decide (x5 < (↑x0.length : Int)) then
  (getI x0 (IntKind.i64.wrap (x5 - 1))).bind fun (y : (Int × Int) × (Int × Int) × Int × Int) =>
    (getI x0 x5).bind fun (y_1 : (Int × Int) × (Int × Int) × Int × Int) =>
      (S68 y y_1).bind fun (y : (((Int × Int) × Int × Int) × ((Int × Int) × Int × Int) × Bool × PUnit) × PUnit) =>
        bif !y.fst.snd.snd.fst then some (((ty3.zero, (Ty.int IntKind.i64).zero), false, ()), ())
        else L25_11 x0 x2 x4 x5 [y.fst.fst.fst, y.fst.snd.fst.fst] (↑[y.fst.fst.fst, y.fst.snd.fst.fst].length : Int) 0
else some ((x4, true, ()), ()) := (loopAt_eq _ _ _ _ _).trans (by kernel_rfl)
noncomputable def S25 (a0 : List ((Int × Int) × (Int × Int) × Int × Int)) : Option (((Int × Int) × Bool × PUnit) × PUnit) := F25.sem (a0, ())
theorem S25_eq (a0 : List ((Int × Int) × (Int × Int) × Int × Int)) : S25 a0 =
  (S14 a0).bind fun (y : (Bool × PUnit) × PUnit) =>
  bif !y.fst.fst then some (((ty3.zero, (Ty.int IntKind.i64).zero), false, ()), ())
  else (S67 0).bind fun (y : ((Int × Int) × PUnit) × PUnit) => L25_5 a0 ty36.zero y.fst.fst 1 := by kernel_rfl
noncomputable def E139 : Env := mkEnv C tab25 [0, 1, 2, 7, 10] 13 (fun (x : Nat) => none) (fun (x x_1 : Nat) => none) [(ty36, Mode.ro)]
noncomputable def K139 := endK C [(ty36, Mode.ro)] [(ty36, 0)] [RV.cell 2 36]
noncomputable def S139 (a0 : Int × Int) : Option (((Int × Int) × PUnit) × PUnit) := F139.sem (a0, ())
theorem S139_eq (a0 : Int × Int) : S139 a0 =
  (S64 a0).bind fun (y : (Bool × PUnit) × PUnit) =>
  bif !y.fst.fst then some (((ty3.zero, (Ty.int IntKind.i64).zero), ()), ())
  else some (((IntKind.i64.wrap (0 - a0.fst), a0.snd), ()), ()) := by kernel_rfl
noncomputable def E134 : Env := mkEnv C tab139 [0, 1, 2, 3, 4] 9 (fun (x : Nat) => none) (fun (x x_1 : Nat) => none) [(ty36, Mode.ro), (ty36, Mode.ro)]
noncomputable def K134 := endK C [(ty36, Mode.ro), (ty36, Mode.ro)] [(ty36, 0)] [RV.cell 4 36]
noncomputable def S134 (a0 : Int × Int) (a1 : Int × Int) : Option (((Int × Int) × PUnit) × PUnit) := F134.sem (a0, a1, ())
theorem S134_eq (a0 : Int × Int) (a1 : Int × Int) : S134 a0 a1 =
  (S139 a1).bind fun (y : ((Int × Int) × PUnit) × PUnit) =>
  (S66 a0 y.fst.fst).bind fun (y : ((Int × Int) × PUnit) × PUnit) => some ((y.fst.fst, ()), ()) := by kernel_rfl
noncomputable def E133 : Env := mkEnv C tab134 [0, 1, 2, 3, 4, 14, 19, 21, 24, 26] 30 (fun (x : Nat) => none) (fun (x x_1 : Nat) => none)
  [(ty36, Mode.ro), (ty36, Mode.ro)]
noncomputable def K133 := endK C [(ty36, Mode.ro), (ty36, Mode.ro)] [(ty36, 0)] [RV.cell 4 36]
noncomputable def S133 (a0 : Int × Int) (a1 : Int × Int) : Option (((Int × Int) × PUnit) × PUnit) := F133.sem (a0, a1, ())
theorem S133_eq (a0 : Int × Int) (a1 : Int × Int) : S133 a0 a1 =
  (S64 a0).bind fun (y : (Bool × PUnit) × PUnit) =>
  bif !y.fst.fst then some (((ty3.zero, (Ty.int IntKind.i64).zero), ()), ())
  else
    (S64 a1).bind fun (y : (Bool × PUnit) × PUnit) =>
      bif !y.fst.fst then some (((ty3.zero, (Ty.int IntKind.i64).zero), ()), ())
      else
        bif a1.fst == 0 then some (((ty3.zero, (Ty.int IntKind.i64).zero), ()), ())
        else
          (S107 (IntKind.i64.wrap (a0.fst * a1.snd)) (IntKind.i64.wrap (a0.snd * a1.fst))).bind
            fun (y : ((Int × Int) × PUnit) × PUnit) => some ((y.fst.fst, ()), ()) := by kernel_rfl
noncomputable def E88 : Env := mkEnv C tab133 [0, 1, 2, 3, 4, 14, 16, 19, 21] 25 (fun (x : Nat) => none) (fun (x x_1 : Nat) => none)
  [(ty36, Mode.ro), (ty36, Mode.ro)]
noncomputable def K88 := endK C [(ty36, Mode.ro), (ty36, Mode.ro)] [(ty36, 0)] [RV.cell 4 36]
noncomputable def S88 (a0 : Int × Int) (a1 : Int × Int) : Option (((Int × Int) × PUnit) × PUnit) := F88.sem (a0, a1, ())
theorem S88_eq (a0 : Int × Int) (a1 : Int × Int) : S88 a0 a1 =
  (S64 a0).bind fun (y : (Bool × PUnit) × PUnit) =>
  bif !y.fst.fst then some (((ty3.zero, (Ty.int IntKind.i64).zero), ()), ())
  else
    (S64 a1).bind fun (y : (Bool × PUnit) × PUnit) =>
      bif !y.fst.fst then some (((ty3.zero, (Ty.int IntKind.i64).zero), ()), ())
      else
        (S107 (IntKind.i64.wrap (a0.fst * a1.fst)) (IntKind.i64.wrap (a0.snd * a1.snd))).bind
          fun (y : ((Int × Int) × PUnit) × PUnit) => some ((y.fst.fst, ()), ()) := by kernel_rfl
noncomputable def E122 : Env := mkEnv C tab88 [0, 1, 2, 3, 4, 5, 6, 7, 8, 9] 24 (fun (x : Nat) => none) (fun (x x_1 : Nat) => none)
  [(ty36, Mode.ro), (ty36, Mode.ro), (ty36, Mode.ro), (ty36, Mode.ro)]
noncomputable def K122 := endK C [(ty36, Mode.ro), (ty36, Mode.ro), (ty36, Mode.ro), (ty36, Mode.ro)] [(ty108, 0)] [RV.cell 8 108]
noncomputable def S122 (a0 : Int × Int) (a1 : Int × Int) (a2 : Int × Int) (a3 : Int × Int) : Option ((((Int × Int) × Int × Int) × PUnit) × PUnit) := F122.sem (a0, a1, a2, a3, ())
theorem S122_eq (a0 : Int × Int) (a1 : Int × Int) (a2 : Int × Int) (a3 : Int × Int) : S122 a0 a1 a2 a3 =
  (S134 a2 a0).bind fun (y : ((Int × Int) × PUnit) × PUnit) =>
  (S134 a3 a1).bind fun (y_1 : ((Int × Int) × PUnit) × PUnit) =>
    (S133 y.fst.fst y_1.fst.fst).bind fun (y : ((Int × Int) × PUnit) × PUnit) =>
      (S88 y.fst.fst a1).bind fun (y_2 : ((Int × Int) × PUnit) × PUnit) =>
        (S134 a0 y_2.fst.fst).bind fun (y_3 : ((Int × Int) × PUnit) × PUnit) =>
          some (((y.fst.fst, y_3.fst.fst), ()), ()) := by kernel_rfl
noncomputable def E123 : Env := mkEnv C tab122 [0, 1, 3, 7] 11 (fun (x : Nat) => none) (fun (x x_1 : Nat) => none) [(ty108, Mode.ro)]
noncomputable def K123 := endK C [(ty108, Mode.ro)] [(ty4, 0)] [RV.tmp 2]
noncomputable def S123 (a0 : (Int × Int) × Int × Int) : Option ((Bool × PUnit) × PUnit) := F123.sem (a0, ())
theorem S123_eq (a0 : (Int × Int) × Int × Int) : S123 a0 =
  (S64 a0.fst).bind fun (y : (Bool × PUnit) × PUnit) =>
  bif y.fst.fst then (S64 a0.snd).bind fun (y : (Bool × PUnit) × PUnit) => some ((y.fst.fst, ()), ())
  else some ((false, ()), ()) := by kernel_rfl
noncomputable def E87 : Env := mkEnv C tab123 [0, 1, 2, 3, 4, 6, 7, 9, 11, 13, 15, 17, 20, 22, 24, 26, 31, 35] 39 (fun (x : Nat) => none)
  (fun (x x_1 : Nat) => none) [(ty77, Mode.ro), (ty77, Mode.ro)]
noncomputable def K87 := endK C [(ty77, Mode.ro), (ty77, Mode.ro)] [(ty110, 0), (ty4, 0)] [RV.cell 4 110, RV.tmp 5]
noncomputable def S87 (a0 : (Int × Int) × (Int × Int) × Int × Int) (a1 : (Int × Int) × (Int × Int) × Int × Int) : Option ((((Int × Int) × (Int × Int) × ((Int × Int) × Int × Int) × (Int × Int) × Int × Int) × Bool × PUnit) × PUnit) := F87.sem (a0, a1, ())
theorem S87_eq (a0 : (Int × Int) × (Int × Int) × Int × Int) (a1 : (Int × Int) × (Int × Int) × Int × Int) : S87 a0 a1 =
  (S122 a0.snd.fst a0.fst a1.snd.fst a1.fst).bind fun (y : (((Int × Int) × Int × Int) × PUnit) × PUnit) =>
  (S122 a0.snd.snd a0.fst a1.snd.snd a1.fst).bind fun (y_1 : (((Int × Int) × Int × Int) × PUnit) × PUnit) =>
    (S123 y.fst.fst).bind fun (y_2 : (Bool × PUnit) × PUnit) =>
      bif y_2.fst.fst then
        (S123 y_1.fst.fst).bind fun (y_3 : (Bool × PUnit) × PUnit) =>
          some (((a0.fst, a1.fst, y.fst.fst, y_1.fst.fst), y_3.fst.fst, ()), ())
      else some (((a0.fst, a1.fst, y.fst.fst, y_1.fst.fst), false, ()), ()) := by kernel_rfl
noncomputable def E70 : Env := mkEnv C tab87 [0, 1, 4, 5, 6, 7, 8, 9, 16, 17, 20, 22, 25, 29, 41, 42, 45, 47, 49] 61
  (fun (k : Nat) => bif k == 1000008 then some 193 else none)
  (fun (d i : Nat) => bif d == 41 then bif i == 0 then some 52 else bif i == 1 then some 53 else none else none)
  [(ty25, Mode.ro)]
noncomputable def K70 := endK C [(ty25, Mode.ro)] [(ty104, 1), (ty4, 0)] [RV.tmp 2, RV.tmp 3]
noncomputable def L70_8 (x0 : List ((Int × Int) × (Int × Int) × Int × Int)) (x6 : List ((Int × Int) × (Int × Int) × ((Int × Int) × Int × Int) × (Int × Int) × Int × Int)) (x7 : Int) : Option ((List ((Int × Int) × (Int × Int) × ((Int × Int) × Int × Int) × (Int × Int) × Int × Int) × Bool × PUnit) × PUnit) := loopAt E70 [1, 1, 1, 1, 0, 1, 0] (Try.f70.body.getD .skip) K70 [V.d none 0 ty25 x0, V.dead, V.dead, V.dead, V.dead, V.dead, V.d none (ty110.depth + 1) (Ty.slice 110 ty110) x6,
  V.d none 0 (Ty.int IntKind.i64) x7, V.dead, V.dead, V.dead, V.dead, V.dead, V.dead, V.dead, V.dead, V.dead, V.dead,
  V.dead, V.dead, V.dead, V.dead, V.dead, V.dead, V.dead, V.dead, V.dead, V.dead, V.dead, V.dead, V.dead, V.dead,
  V.dead, V.dead, V.dead, V.dead, V.dead, V.dead, V.dead, V.dead, V.dead, V.dead, V.dead, V.dead, V.dead, V.dead,
  V.dead, V.dead, V.dead, V.dead, V.dead, V.dead, V.dead, V.dead, V.dead, V.dead, V.dead, V.dead, V.dead, V.dead,
  V.dead]
theorem L70_8_eq (x0 : List ((Int × Int) × (Int × Int) × Int × Int)) (x6 : List ((Int × Int) × (Int × Int) × ((Int × Int) × Int × Int) × (Int × Int) × Int × Int)) (x7 : Int) : L70_8 x0 x6 x7 =
  bif decide (x7 < (↑x0.length : Int)) then
  (getI x0 (IntKind.i64.wrap (x7 - 1))).bind fun (y : (Int × Int) × (Int × Int) × Int × Int) =>
    (getI x0 x7).bind fun (y_1 : (Int × Int) × (Int × Int) × Int × Int) =>
      (S87 y y_1).bind
        fun
          (y :
            (((Int × Int) × (Int × Int) × ((Int × Int) × Int × Int) × (Int × Int) × Int × Int) × Bool × PUnit) ×
              PUnit) =>
        bif !y.fst.snd.fst then some (([], false, ()), ())
        else
          bif decide ((x6.length + [y.fst.fst].length) * 96 ≤ 140737488355328) then
            L70_8 x0 (x6 ++ [y.fst.fst]) (IntKind.i64.wrap (x7 + 1))
          else none
else some ((x6, true, ()), ()) := (loopAt_eq _ _ _ _ _).trans (by kernel_rfl)
noncomputable def S70 (a0 : List ((Int × Int) × (Int × Int) × Int × Int)) : Option ((List ((Int × Int) × (Int × Int) × ((Int × Int) × Int × Int) × (Int × Int) × Int × Int) × Bool × PUnit) × PUnit) := F70.sem (a0, ())
theorem S70_eq (a0 : List ((Int × Int) × (Int × Int) × Int × Int)) : S70 a0 =
  (S16 a0).bind fun (y : (Bool × PUnit) × PUnit) =>
  bif !y.fst.fst then some (([], false, ()), ())
  else
    bif (↑a0.length : Int) == 1 then
      (getI a0 0).bind fun (y : (Int × Int) × (Int × Int) × Int × Int) =>
        some (([(y.fst, y.fst, ((ty3.zero, 1), y.snd.fst), (ty3.zero, 1), y.snd.snd)], true, ()), ())
    else L70_8 a0 [] 1 := by kernel_rfl
noncomputable def E26 : Env := mkEnv C tab70 [0, 1, 2, 4, 5, 6, 7, 8, 9, 10, 11, 20, 24, 26, 27, 29, 30, 32, 36, 38] 50
  (fun (k : Nat) => bif k == 1000006 then some 7340116 else bif k == 1000009 then some 30072111188 else none)
  (fun (d i : Nat) => bif d == 11 then bif i == 0 then some 14 else bif i == 1 then some 15 else none else none)
  [(ty25, Mode.ro)]
noncomputable def K26 := endK C [(ty25, Mode.ro)] [(ty36, 0), (ty4, 0)] [RV.cell 2 36, RV.tmp 3]
noncomputable def L26_9 (x2 : Int × Int) (x4 : List ((Int × Int) × (Int × Int) × ((Int × Int) × Int × Int) × (Int × Int) × Int × Int)) (x6 : Int × Int) (x21 : Int) (x22 : Int) (x32 : List (Int × Int)) (x33 : Int) (x34 : Int) : Option (((Int × Int) × Bool × PUnit) × PUnit) := loopAt E26 [1, 1, 1, 1, 0, 1, 0, 0, 1, 1, 0, 0, 1, 1, 0] (Try.f26.body.getD .skip) K26 [V.dead, V.dead, V.box none ty36.depth ty36 x2, V.dead, V.d none 1 ty104 x4, V.dead, V.box none ty36.depth ty36 x6,
  V.dead, V.dead, V.dead, V.dead, V.dead, V.dead, V.dead, V.dead, V.dead, V.dead, V.dead, V.dead, V.dead,
  V.view 4 [] ty104, V.d none 0 (Ty.int IntKind.i64) x21, V.d none 0 (Ty.int IntKind.i64) x22, V.dead, V.dead, V.dead,
  V.dead, V.dead, V.dead, V.dead, V.dead, V.dead,
  V.d none ((minO none (minO none none)).getD ty36.depth + 1) (Ty.slice 36 ty36) x32,
  V.d none 0 (Ty.int IntKind.i64) x33, V.d none 0 (Ty.int IntKind.i64) x34, V.dead, V.dead, V.dead, V.dead, V.dead,
  V.dead, V.dead, V.dead, V.dead, V.dead, V.dead, V.dead, V.dead, V.dead, V.dead]
noncomputable def L26_6 (x2 : Int × Int) (x4 : List ((Int × Int) × (Int × Int) × ((Int × Int) × Int × Int) × (Int × Int) × Int × Int)) (x6 : Int × Int) (x21 : Int) (x22 : Int) : Option (((Int × Int) × Bool × PUnit) × PUnit) := loopAt E26 [1, 1, 1, 1, 0, 1, 0] (Try.f26.body.getD .skip) K26 [V.dead, V.dead, V.box none ty36.depth ty36 x2, V.dead, V.d none 1 ty104 x4, V.dead, V.box none ty36.depth ty36 x6,
  V.dead, V.dead, V.dead, V.dead, V.dead, V.dead, V.dead, V.dead, V.dead, V.dead, V.dead, V.dead, V.dead,
  V.view 4 [] ty104, V.d none 0 (Ty.int IntKind.i64) x21, V.d none 0 (Ty.int IntKind.i64) x22, V.dead, V.dead, V.dead,
  V.dead, V.dead, V.dead, V.dead, V.dead, V.dead, V.dead, V.dead, V.dead, V.dead, V.dead, V.dead, V.dead, V.dead,
  V.dead, V.dead, V.dead, V.dead, V.dead, V.dead, V.dead, V.dead, V.dead, V.dead]
theorem L26_9_eq (x2 : Int × Int) (x4 : List ((Int × Int) × (Int × Int) × ((Int × Int) × Int × Int) × (Int × Int) × Int × Int)) (x6 : Int × Int) (x21 : Int) (x22 : Int) (x32 : List (Int × Int)) (x33 : Int) (x34 : Int) : L26_9 x2 x4 x6 x21 x22 x32 x33 x34 =
  bif decide (x34 < x33) then
  (getI x32 x34).bind fun (y : Int × Int) =>
    (getI x32 x34).bind fun (y : Int × Int) =>
      (S71 y.fst).bind fun (y_1 : (Int × PUnit) × PUnit) =>
        (S51 (y_1.fst.fst, y.snd) x6).bind fun (y_2 : (Int × PUnit) × PUnit) =>
          bif decide (y_2.fst.fst > 0) then
            L26_9 x2 x4 (y_1.fst.fst, y.snd) x21 x22 x32 x33 (IntKind.i64.wrap (x34 + 1))
          else L26_9 x2 x4 x6 x21 x22 x32 x33 (IntKind.i64.wrap (x34 + 1))
else L26_6 x2 x4 x6 x21 (IntKind.i64.wrap (x22 + 1)) := (loopAt_eq _ _ _ _ _).trans (by kernel_rfl)
theorem L26_6_eq (x2 : Int × Int) (x4 : List ((Int × Int) × (Int × Int) × ((Int × Int) × Int × Int) × (Int × Int) × Int × Int)) (x6 : Int × Int) (x21 : Int) (x22 : Int) : L26_6 x2 x4 x6 x21 x22 =
  bif decide (x22 < x21) then
  (getI x4 x22).bind fun (y : (Int × Int) × (Int × Int) × ((Int × Int) × Int × Int) × (Int × Int) × Int × Int) =>
    (getI x4 x22).bind fun (y : (Int × Int) × (Int × Int) × ((Int × Int) × Int × Int) × (Int × Int) × Int × Int) =>
      L26_9 x2 x4 x6 x21 x22 [y.snd.snd.fst.fst, y.snd.snd.snd.fst]
        (↑[y.snd.snd.fst.fst, y.snd.snd.snd.fst].length : Int) 0
else some ((x6, true, ()), ()) := (loopAt_eq _ _ _ _ _).trans (by kernel_rfl)
noncomputable def S26 (a0 : List ((Int × Int) × (Int × Int) × Int × Int)) : Option (((Int × Int) × Bool × PUnit) × PUnit) := F26.sem (a0, ())
theorem S26_eq (a0 : List ((Int × Int) × (Int × Int) × Int × Int)) : S26 a0 =
  (S70 a0).bind
  fun
    (y :
      (List ((Int × Int) × (Int × Int) × ((Int × Int) × Int × Int) × (Int × Int) × Int × Int) × Bool × PUnit) ×
        PUnit) =>
  bif !y.fst.snd.fst then some (((ty3.zero, (Ty.int IntKind.i64).zero), false, ()), ())
  else L26_6 ty36.zero y.fst.fst (ty3.zero, 1) (↑(List.length y.fst.fst) : Int) 0 := by kernel_rfl
noncomputable def E6 : Env := mkEnv C tab26 [0, 1, 3, 4, 5, 6, 7, 8, 14, 22] 41 (fun (x : Nat) => none)
  (fun (d i : Nat) =>
    bif d == 14 then bif i == 0 then some 18 else bif i == 1 then some 19 else none
    else bif d == 22 then bif i == 0 then some 25 else bif i == 1 then some 26 else none else none)
  [(ty22, Mode.ro)]
noncomputable def K6 := endK C [(ty22, Mode.ro)] [(ty4, 0)] [RV.tmp 2]
noncomputable def S6 (a0 : List ((Int × Int) × (Int × Int) × Int × Int)) : Option ((Bool × PUnit) × PUnit) := F6.sem (a0, ())
theorem S6_eq (a0 : List ((Int × Int) × (Int × Int) × Int × Int)) : S6 a0 =
  (S13 a0 1048576).bind fun (y : (Int × PUnit) × PUnit) =>
  bif decide (y.fst.fst < 0) then some ((true, ()), ())
  else
    (S15 a0).bind fun (y : (List ((Int × Int) × (Int × Int) × Int × Int) × PUnit) × PUnit) =>
      (S25 y.fst.fst).bind fun (y : ((Int × Int) × Bool × PUnit) × PUnit) =>
        (S15 a0).bind fun (y_1 : (List ((Int × Int) × (Int × Int) × Int × Int) × PUnit) × PUnit) =>
          (S26 y_1.fst.fst).bind fun (y_2 : ((Int × Int) × Bool × PUnit) × PUnit) =>
            (S27 y_2.fst.fst y.fst.fst).bind fun (y_3 : (Bool × PUnit) × PUnit) =>
              bif !y_3.fst.fst then some ((false, ()), ())
              else
                bif !y_2.fst.snd.fst == y.fst.snd.fst then some ((false, ()), ())
                else
                  (S15 a0).bind fun (y : (List ((Int × Int) × (Int × Int) × Int × Int) × PUnit) × PUnit) =>
                    (S17 y_1.fst.fst y.fst.fst).bind fun (y : (Bool × PUnit) × PUnit) =>
                      bif !y.fst.fst then some ((false, ()), ()) else some ((true, ()), ()) := by kernel_rfl
noncomputable def E91 : Env := mkEnv C tab6 [0, 1, 2, 3, 4, 5, 9] 12 (fun (x : Nat) => none) (fun (x x_1 : Nat) => none)
  [(ty100, Mode.ro), (ty36, Mode.ro)]
noncomputable def K91 := endK C [(ty100, Mode.ro), (ty36, Mode.ro)] [(ty36, 0)] [RV.cell 4 36]
noncomputable def S91 (a0 : (Int × Int) × Int × Int) (a1 : Int × Int) : Option (((Int × Int) × PUnit) × PUnit) := F91.sem (a0, a1, ())
theorem S91_eq (a0 : (Int × Int) × Int × Int) (a1 : Int × Int) : S91 a0 a1 =
  (S125 a0.fst a1).bind fun (y : ((Int × Int) × PUnit) × PUnit) =>
  (S42 y.fst.fst a0.snd).bind fun (y : ((Int × Int) × PUnit) × PUnit) => some ((y.fst.fst, ()), ()) := by kernel_rfl
noncomputable def E92 : Env := mkEnv C tab91 [0, 1, 2, 3, 5, 12, 14] 22 (fun (k : Nat) => bif k == 1000002 then some 35 else none)
  (fun (x x_1 : Nat) => none) [(ty63, Mode.ro), (ty3, Mode.ro)]
noncomputable def K92 := endK C [(ty63, Mode.ro), (ty3, Mode.ro)] [(ty4, 0)] [RV.tmp 4]
noncomputable def L92_2 (x0 : List (Int × Int)) (x1 : Int) (x5 : Int) : Option ((Bool × PUnit) × PUnit) := loopAt E92 [1, 0, 1, 0] (Try.f92.body.getD .skip) K92 [V.d none 0 ty63 x0, V.d none 0 ty3 x1, V.dead, V.dead, V.dead, V.d none 0 (Ty.int IntKind.i64) x5, V.dead, V.dead,
  V.dead, V.dead, V.dead, V.dead, V.dead, V.dead, V.dead, V.dead, V.dead, V.dead, V.dead, V.dead, V.dead, V.dead]
theorem L92_2_eq (x0 : List (Int × Int)) (x1 : Int) (x5 : Int) : L92_2 x0 x1 x5 =
  bif decide (x5 < (↑x0.length : Int)) then
  (getI x0 x5).bind fun (y : Int × Int) =>
    (S60 y).bind fun (y : (Bool × PUnit) × PUnit) =>
      bif !y.fst.fst then some ((false, ()), ()) else L92_2 x0 x1 (IntKind.i64.wrap (x5 + 1))
else some (((↑x0.length : Int) == x1, ()), ()) := (loopAt_eq _ _ _ _ _).trans (by kernel_rfl)
noncomputable def S92 (a0 : List (Int × Int)) (a1 : Int) : Option ((Bool × PUnit) × PUnit) := F92.sem (a0, a1, ())
theorem S92_eq (a0 : List (Int × Int)) (a1 : Int) : S92 a0 a1 =
  L92_2 a0 a1 0 := by kernel_rfl
noncomputable def E43 : Env := mkEnv C tab92
  [0, 1, 2, 3, 6, 7, 8, 9, 10, 26, 28, 29, 33, 35, 36, 38, 40, 41, 47, 50, 51, 58, 60, 61, 65, 66, 69, 71, 73] 96
  (fun (k : Nat) => bif k == 1000004 then some 73 else none)
  (fun (d i : Nat) =>
    bif d == 65 then bif i == 0 then some 76 else bif i == 1 then some 77 else bif i == 2 then some 78 else none
    else none)
  [(ty25, Mode.ro), (ty36, Mode.ro)]
noncomputable def K43 := endK C [(ty25, Mode.ro), (ty36, Mode.ro)] [(ty63, 1), (ty4, 0)] [RV.tmp 4, RV.tmp 5]
noncomputable def L43_4 (x0 : List ((Int × Int) × (Int × Int) × Int × Int)) (x3 : Int × Int) (x6 : Int) : Option ((List (Int × Int) × Bool × PUnit) × PUnit) := loopAt E43 [1, 1, 0, 1, 0] (Try.f43.body.getD .skip) K43 [V.d none 0 ty25 x0, V.dead, V.dead, V.box none 0 ty36 x3, V.dead, V.dead, V.d none 0 (Ty.int IntKind.i64) x6, V.dead,
  V.dead, V.dead, V.dead, V.dead, V.dead, V.dead, V.dead, V.dead, V.dead, V.dead, V.dead, V.dead, V.dead, V.dead,
  V.dead, V.dead, V.dead, V.dead, V.dead, V.dead, V.dead, V.dead, V.dead, V.dead, V.dead, V.dead, V.dead, V.dead,
  V.dead, V.dead, V.dead, V.dead, V.dead, V.dead, V.dead, V.dead, V.dead, V.dead, V.dead, V.dead, V.dead, V.dead,
  V.dead, V.dead, V.dead, V.dead, V.dead, V.dead, V.dead, V.dead, V.dead, V.dead, V.dead, V.dead, V.dead, V.dead,
  V.dead, V.dead, V.dead, V.dead, V.dead, V.dead, V.dead, V.dead, V.dead, V.dead, V.dead, V.dead, V.dead, V.dead,
  V.dead, V.dead, V.dead, V.dead, V.dead, V.dead, V.dead, V.dead, V.dead, V.dead, V.dead, V.dead, V.dead, V.dead,
  V.dead, V.dead, V.dead, V.dead]
theorem L43_4_eq (x0 : List ((Int × Int) × (Int × Int) × Int × Int)) (x3 : Int × Int) (x6 : Int) : L43_4 x0 x3 x6 =
  bif decide (x6 < (↑x0.length : Int)) then
  (getI x0 x6).bind fun (y : (Int × Int) × (Int × Int) × Int × Int) =>
    bif y.fst.fst == x3.fst && y.fst.snd == x3.snd then
      (getI x0 x6).bind fun (y : (Int × Int) × (Int × Int) × Int × Int) =>
        (getI x0 x6).bind fun (y_1 : (Int × Int) × (Int × Int) × Int × Int) =>
          some (([y.snd.fst, y_1.snd.snd], true, ()), ())
    else
      bif decide (x6 > 0) then
        (getI x0 (IntKind.i64.wrap (x6 - 1))).bind fun (y : (Int × Int) × (Int × Int) × Int × Int) =>
          (S61 y.fst x3).bind fun (y : (Bool × PUnit) × PUnit) =>
            bif y.fst.fst then
              (getI x0 x6).bind fun (y : (Int × Int) × (Int × Int) × Int × Int) =>
                (S61 x3 y.fst).bind fun (y : (Bool × PUnit) × PUnit) =>
                  bif y.fst.fst then
                    (getI x0 (IntKind.i64.wrap (x6 - 1))).bind fun (y : (Int × Int) × (Int × Int) × Int × Int) =>
                      (getI x0 x6).bind fun (y_1 : (Int × Int) × (Int × Int) × Int × Int) =>
                        (S68 y y_1).bind
                          fun (y : (((Int × Int) × Int × Int) × ((Int × Int) × Int × Int) × Bool × PUnit) × PUnit) =>
                          (S91 y.fst.fst x3).bind fun (y_2 : ((Int × Int) × PUnit) × PUnit) =>
                            (S91 y.fst.snd.fst x3).bind fun (y_3 : ((Int × Int) × PUnit) × PUnit) =>
                              bif !y.fst.snd.snd.fst then some (([], false, ()), ())
                              else
                                (S92 [y_2.fst.fst, y_3.fst.fst] 2).bind fun (y : (Bool × PUnit) × PUnit) =>
                                  bif !y.fst.fst then some (([], false, ()), ())
                                  else some (([y_2.fst.fst, y_3.fst.fst], true, ()), ())
                  else L43_4 x0 x3 (IntKind.i64.wrap (x6 + 1))
            else L43_4 x0 x3 (IntKind.i64.wrap (x6 + 1))
      else L43_4 x0 x3 (IntKind.i64.wrap (x6 + 1))
else some (([], false, ()), ()) := (loopAt_eq _ _ _ _ _).trans (by kernel_rfl)
noncomputable def S43 (a0 : List ((Int × Int) × (Int × Int) × Int × Int)) (a1 : Int × Int) : Option ((List (Int × Int) × Bool × PUnit) × PUnit) := F43.sem (a0, a1, ())
theorem S43_eq (a0 : List ((Int × Int) × (Int × Int) × Int × Int)) (a1 : Int × Int) : S43 a0 a1 =
  (S14 a0).bind fun (y : (Bool × PUnit) × PUnit) =>
  bif !y.fst.fst then some (([], false, ()), ())
  else
    (S60 a1).bind fun (y : (Bool × PUnit) × PUnit) => bif !y.fst.fst then some (([], false, ()), ()) else L43_4 a0 a1 0 := by kernel_rfl
noncomputable def E89 : Env := mkEnv C tab43 [0, 1, 2, 3, 5, 6, 11, 15] 21 (fun (k : Nat) => bif k == 1000004 then some 14337 else none)
  (fun (x x_1 : Nat) => none) [(ty63, Mode.ro), (ty3, Mode.ro)]
noncomputable def K89 := endK C [(ty63, Mode.ro), (ty3, Mode.ro)] [(ty4, 0)] [RV.tmp 4]
noncomputable def L89_4 (x0 : List (Int × Int)) (x11 : List (Int × Int)) (x12 : Int) (x13 : Int) : Option ((Bool × PUnit) × PUnit) := loopAt E89 [1, 1, 0, 1, 0] (Try.f89.body.getD .skip) K89 [V.d none 0 ty63 x0, V.dead, V.dead, V.dead, V.dead, V.dead, V.dead, V.dead, V.dead, V.dead, V.dead,
  V.d none 0 ty63 x11, V.d none 0 (Ty.int IntKind.i64) x12, V.d none 0 (Ty.int IntKind.i64) x13, V.dead, V.dead, V.dead,
  V.dead, V.dead, V.dead, V.dead]
theorem L89_4_eq (x0 : List (Int × Int)) (x11 : List (Int × Int)) (x12 : Int) (x13 : Int) : L89_4 x0 x11 x12 x13 =
  bif decide (x13 < x12) then
  (getI x11 x13).bind fun (y : Int × Int) =>
    (S64 y).bind fun (y : (Bool × PUnit) × PUnit) =>
      bif !y.fst.fst then some ((false, ()), ()) else L89_4 x0 x11 x12 (IntKind.i64.wrap (x13 + 1))
else some ((true, ()), ()) := (loopAt_eq _ _ _ _ _).trans (by kernel_rfl)
noncomputable def S89 (a0 : List (Int × Int)) (a1 : Int) : Option ((Bool × PUnit) × PUnit) := F89.sem (a0, a1, ())
theorem S89_eq (a0 : List (Int × Int)) (a1 : Int) : S89 a0 a1 =
  bif (↑a0.length : Int) != a1 then some ((false, ()), ()) else L89_4 a0 a0 (↑a0.length : Int) 0 := by kernel_rfl
noncomputable def E41 : Env := mkEnv C tab89 [0, 1, 2, 3, 6, 7, 8, 9, 10, 11, 20, 25, 28, 33, 35, 42, 43, 46, 54, 55, 59, 60, 63, 64, 68, 69] 78
  (fun (k : Nat) => bif k == 1000004 then some 7340041 else none)
  (fun (d i : Nat) => bif d == 42 then bif i == 0 then some 50 else bif i == 1 then some 51 else none else none)
  [(ty25, Mode.ro), (ty36, Mode.ro)]
noncomputable def K41 := endK C [(ty25, Mode.ro), (ty36, Mode.ro)] [(ty63, 1), (ty4, 0)] [RV.tmp 4, RV.tmp 5]
noncomputable def L41_4 (x0 : List ((Int × Int) × (Int × Int) × Int × Int)) (x3 : Int × Int) (x20 : List ((Int × Int) × (Int × Int) × Int × Int)) (x21 : Int) (x22 : Int) : Option ((List (Int × Int) × Bool × PUnit) × PUnit) := loopAt E41 [1, 1, 0, 1, 0] (Try.f41.body.getD .skip) K41 [V.d none 0 ty25 x0, V.dead, V.dead, V.box none 0 ty36 x3, V.dead, V.dead, V.dead, V.dead, V.dead, V.dead, V.dead,
  V.dead, V.dead, V.dead, V.dead, V.dead, V.dead, V.dead, V.dead, V.dead, V.d none 0 ty25 x20,
  V.d none 0 (Ty.int IntKind.i64) x21, V.d none 0 (Ty.int IntKind.i64) x22, V.dead, V.dead, V.dead, V.dead, V.dead,
  V.dead, V.dead, V.dead, V.dead, V.dead, V.dead, V.dead, V.dead, V.dead, V.dead, V.dead, V.dead, V.dead, V.dead,
  V.dead, V.dead, V.dead, V.dead, V.dead, V.dead, V.dead, V.dead, V.dead, V.dead, V.dead, V.dead, V.dead, V.dead,
  V.dead, V.dead, V.dead, V.dead, V.dead, V.dead, V.dead, V.dead, V.dead, V.dead, V.dead, V.dead, V.dead, V.dead,
  V.dead, V.dead, V.dead, V.dead, V.dead, V.dead, V.dead, V.dead]
theorem L41_4_eq (x0 : List ((Int × Int) × (Int × Int) × Int × Int)) (x3 : Int × Int) (x20 : List ((Int × Int) × (Int × Int) × Int × Int)) (x21 : Int) (x22 : Int) : L41_4 x0 x3 x20 x21 x22 =
  bif decide (x22 < x21) then
  (getI x20 x22).bind fun (y : (Int × Int) × (Int × Int) × Int × Int) =>
    (S51 x3 y.fst).bind fun (y_1 : (Int × PUnit) × PUnit) =>
      bif y_1.fst.fst == 0 then some (([y.snd.fst, y.snd.snd], true, ()), ())
      else
        bif decide (y_1.fst.fst > 0) then L41_4 x0 x3 x20 x21 (IntKind.i64.wrap (x22 + 1))
        else
          bif x22 == 0 then some (([], false, ()), ())
          else
            (getI x0 (IntKind.i64.wrap (x22 - 1))).bind fun (y_2 : (Int × Int) × (Int × Int) × Int × Int) =>
              (S87 y_2 y).bind
                fun
                  (y :
                    (((Int × Int) × (Int × Int) × ((Int × Int) × Int × Int) × (Int × Int) × Int × Int) × Bool × PUnit) ×
                      PUnit) =>
                bif !y.fst.snd.fst then some (([], false, ()), ())
                else
                  (S88 y.fst.fst.snd.snd.fst.fst x3).bind fun (y_3 : ((Int × Int) × PUnit) × PUnit) =>
                    (S66 y_3.fst.fst y.fst.fst.snd.snd.fst.snd).bind fun (y_4 : ((Int × Int) × PUnit) × PUnit) =>
                      (S88 y.fst.fst.snd.snd.snd.fst x3).bind fun (y_5 : ((Int × Int) × PUnit) × PUnit) =>
                        (S66 y_5.fst.fst y.fst.fst.snd.snd.snd.snd).bind fun (y : ((Int × Int) × PUnit) × PUnit) =>
                          (S89 [y_4.fst.fst, y.fst.fst] 2).bind fun (y_6 : (Bool × PUnit) × PUnit) =>
                            bif !y_6.fst.fst then some (([], false, ()), ())
                            else some (([y_4.fst.fst, y.fst.fst], true, ()), ())
else some (([], false, ()), ()) := (loopAt_eq _ _ _ _ _).trans (by kernel_rfl)
noncomputable def S41 (a0 : List ((Int × Int) × (Int × Int) × Int × Int)) (a1 : Int × Int) : Option ((List (Int × Int) × Bool × PUnit) × PUnit) := F41.sem (a0, a1, ())
theorem S41_eq (a0 : List ((Int × Int) × (Int × Int) × Int × Int)) (a1 : Int × Int) : S41 a0 a1 =
  (S16 a0).bind fun (y : (Bool × PUnit) × PUnit) =>
  bif !y.fst.fst then some (([], false, ()), ())
  else
    (S64 a1).bind fun (y : (Bool × PUnit) × PUnit) =>
      bif !y.fst.fst then some (([], false, ()), ()) else L41_4 a0 a1 a0 (↑a0.length : Int) 0 := by kernel_rfl
noncomputable def E44 : Env := mkEnv C tab41 [0, 1, 2, 3, 5, 17, 19, 21, 23] 27 (fun (k : Nat) => bif k == 1000004 then some 35 else none)
  (fun (x x_1 : Nat) => none) [(ty63, Mode.ro), (ty63, Mode.ro)]
noncomputable def K44 := endK C [(ty63, Mode.ro), (ty63, Mode.ro)] [(ty4, 0)] [RV.tmp 4]
noncomputable def L44_4 (x0 : List (Int × Int)) (x1 : List (Int × Int)) (x5 : Int) : Option ((Bool × PUnit) × PUnit) := loopAt E44 [1, 1, 0, 1, 0] (Try.f44.body.getD .skip) K44 [V.d none 0 ty63 x0, V.d none 0 ty63 x1, V.dead, V.dead, V.dead, V.d none 0 (Ty.int IntKind.i64) x5, V.dead, V.dead,
  V.dead, V.dead, V.dead, V.dead, V.dead, V.dead, V.dead, V.dead, V.dead, V.dead, V.dead, V.dead, V.dead, V.dead,
  V.dead, V.dead, V.dead, V.dead, V.dead]
theorem L44_4_eq (x0 : List (Int × Int)) (x1 : List (Int × Int)) (x5 : Int) : L44_4 x0 x1 x5 =
  bif decide (x5 < (↑x0.length : Int)) then
  (getI x0 x5).bind fun (y : Int × Int) =>
    (getI x1 x5).bind fun (y_1 : Int × Int) =>
      (S27 y y_1).bind fun (y : (Bool × PUnit) × PUnit) =>
        bif !y.fst.fst then some ((false, ()), ()) else L44_4 x0 x1 (IntKind.i64.wrap (x5 + 1))
else some ((true, ()), ()) := (loopAt_eq _ _ _ _ _).trans (by kernel_rfl)
noncomputable def S44 (a0 : List (Int × Int)) (a1 : List (Int × Int)) : Option ((Bool × PUnit) × PUnit) := F44.sem (a0, a1, ())
theorem S44_eq (a0 : List (Int × Int)) (a1 : List (Int × Int)) : S44 a0 a1 =
  bif (↑a0.length : Int) != (↑a1.length : Int) then some ((false, ()), ()) else L44_4 a0 a1 0 := by kernel_rfl
noncomputable def E45 : Env := mkEnv C tab44 [0, 1, 2, 3, 5, 12, 15, 19, 22] 27 (fun (k : Nat) => bif k == 1000002 then some 35 else none)
  (fun (x x_1 : Nat) => none) [(ty63, Mode.mut 1), (ty3, Mode.ro)]
noncomputable def K45 := endK C [(ty63, Mode.mut 1), (ty3, Mode.ro)] [(ty3, 0)] [RV.tmp 4]
noncomputable def L45_2 (x0 : List (Int × Int)) (x1 : Int) (x5 : Int) : Option ((Int × PUnit) × List (Int × Int) × PUnit) := loopAt E45 [1, 0, 1, 0] (Try.f45.body.getD .skip) K45 [V.d none 1 ty63 x0, V.d none 0 ty3 x1, V.dead, V.dead, V.dead, V.d none 0 (Ty.int IntKind.i64) x5, V.dead, V.dead,
  V.dead, V.dead, V.dead, V.dead, V.dead, V.dead, V.dead, V.dead, V.dead, V.dead, V.dead, V.dead, V.dead, V.dead,
  V.dead, V.dead, V.dead, V.dead, V.dead]
theorem L45_2_eq (x0 : List (Int × Int)) (x1 : Int) (x5 : Int) : L45_2 x0 x1 x5 =
  bif decide (x5 < (↑x0.length : Int)) then
  (getI x0 x5).bind fun (y : Int × Int) =>
    (getI x0 x5).bind fun (y : Int × Int) =>
      (getI x0 x5).bind fun (y : Int × Int) =>
        (getI (x0.set x5.toNat (x1, y.snd)) x5).bind fun (y_1 : Int × Int) =>
          (getI (x0.set x5.toNat (x1, y.snd)) x5).bind fun (y_2 : Int × Int) =>
            (getI (x0.set x5.toNat (x1, y.snd)) x5).bind fun (y_3 : Int × Int) =>
              L45_2 ((x0.set x5.toNat (x1, y.snd)).set x5.toNat (y_3.fst, IntKind.i64.wrap (x1 + 1)))
                (IntKind.i64.wrap (IntKind.i64.wrap (x1 + 1) + 1)) (IntKind.i64.wrap (x5 + 1))
else some ((x1, ()), x0, ()) := (loopAt_eq _ _ _ _ _).trans (by kernel_rfl)
noncomputable def S45 (a0 : List (Int × Int)) (a1 : Int) : Option ((Int × PUnit) × List (Int × Int) × PUnit) := F45.sem (a0, a1, ())
theorem S45_eq (a0 : List (Int × Int)) (a1 : Int) : S45 a0 a1 =
  L45_2 a0 a1 0 := by kernel_rfl
noncomputable def E46 : Env := mkEnv C tab45 [0, 1, 2, 3, 5, 12, 14, 15, 21, 23, 24] 31 (fun (k : Nat) => bif k == 1000002 then some 35 else none)
  (fun (x x_1 : Nat) => none) [(ty63, Mode.ro), (ty3, Mode.ro)]
noncomputable def K46 := endK C [(ty63, Mode.ro), (ty3, Mode.ro)] [(ty3, 0)] [RV.tmp 4]
noncomputable def L46_2 (x0 : List (Int × Int)) (x1 : Int) (x5 : Int) : Option ((Int × PUnit) × PUnit) := loopAt E46 [1, 0, 1, 0] (Try.f46.body.getD .skip) K46 [V.d none 0 ty63 x0, V.d none 0 ty3 x1, V.dead, V.dead, V.dead, V.d none 0 (Ty.int IntKind.i64) x5, V.dead, V.dead,
  V.dead, V.dead, V.dead, V.dead, V.dead, V.dead, V.dead, V.dead, V.dead, V.dead, V.dead, V.dead, V.dead, V.dead,
  V.dead, V.dead, V.dead, V.dead, V.dead, V.dead, V.dead, V.dead, V.dead]
theorem L46_2_eq (x0 : List (Int × Int)) (x1 : Int) (x5 : Int) : L46_2 x0 x1 x5 =
  bif decide (x5 < (↑x0.length : Int)) then
  (getI x0 x5).bind fun (y : Int × Int) =>
    bif y.fst != x1 then some ((-1, ()), ())
    else
      (getI x0 x5).bind fun (y : Int × Int) =>
        bif y.snd != IntKind.i64.wrap (x1 + 1) then some ((-1, ()), ())
        else L46_2 x0 (IntKind.i64.wrap (IntKind.i64.wrap (x1 + 1) + 1)) (IntKind.i64.wrap (x5 + 1))
else some ((x1, ()), ()) := (loopAt_eq _ _ _ _ _).trans (by kernel_rfl)
noncomputable def S46 (a0 : List (Int × Int)) (a1 : Int) : Option ((Int × PUnit) × PUnit) := F46.sem (a0, a1, ())
theorem S46_eq (a0 : List (Int × Int)) (a1 : Int) : S46 a0 a1 =
  L46_2 a0 a1 0 := by kernel_rfl
noncomputable def E9 : Env := mkEnv C tab46 [0, 1, 2, 3, 5, 6, 7, 8, 9, 10, 11, 12, 13, 14, 15, 21, 31, 79] 104 (fun (x : Nat) => none)
  (fun (d i : Nat) =>
    bif d == 21 then bif i == 0 then some 27 else bif i == 1 then some 28 else none
    else
      bif d == 31 then bif i == 0 then some 36 else bif i == 1 then some 37 else none
      else bif d == 79 then bif i == 0 then some 85 else bif i == 1 then some 86 else none else none)
  [(ty22, Mode.ro), (ty34, Mode.ro)]
noncomputable def K9 := endK C [(ty22, Mode.ro), (ty34, Mode.ro)] [(ty4, 0)] [RV.tmp 4]
noncomputable def S9 (a0 : List ((Int × Int) × (Int × Int) × Int × Int)) (a1 : Int × Int) : Option ((Bool × PUnit) × PUnit) := F9.sem (a0, a1, ())
theorem S9_eq (a0 : List ((Int × Int) × (Int × Int) × Int × Int)) (a1 : Int × Int) : S9 a0 a1 =
  (S13 a0 1048576).bind fun (y : (Int × PUnit) × PUnit) =>
  bif decide (y.fst.fst < 0) then some ((true, ()), ())
  else
    (S15 a0).bind fun (y : (List ((Int × Int) × (Int × Int) × Int × Int) × PUnit) × PUnit) =>
      (S23 a1).bind fun (y_1 : ((Int × Int) × PUnit) × PUnit) =>
        (S43 y.fst.fst y_1.fst.fst).bind fun (y : (List (Int × Int) × Bool × PUnit) × PUnit) =>
          (S15 a0).bind fun (y_2 : (List ((Int × Int) × (Int × Int) × Int × Int) × PUnit) × PUnit) =>
            (S23 a1).bind fun (y_3 : ((Int × Int) × PUnit) × PUnit) =>
              (S41 y_2.fst.fst y_3.fst.fst).bind fun (y_4 : (List (Int × Int) × Bool × PUnit) × PUnit) =>
                (S44 y_4.fst.fst y.fst.fst).bind fun (y_5 : (Bool × PUnit) × PUnit) =>
                  bif !y_5.fst.fst then some ((false, ()), ())
                  else
                    bif !y_4.fst.snd.fst == y.fst.snd.fst then some ((false, ()), ())
                    else
                      (S15 a0).bind fun (y_6 : (List ((Int × Int) × (Int × Int) × Int × Int) × PUnit) × PUnit) =>
                        (S17 y_2.fst.fst y_6.fst.fst).bind fun (y_7 : (Bool × PUnit) × PUnit) =>
                          bif !y_7.fst.fst then some ((false, ()), ())
                          else
                            (S20 y_2.fst.fst 1).bind
                              fun (y_8 : (Int × PUnit) × List ((Int × Int) × (Int × Int) × Int × Int) × PUnit) =>
                              bif decide (y_8.fst.fst < 0) then some ((false, ()), ())
                              else
                                (S44 y_4.fst.fst y.fst.fst).bind fun (y_9 : (Bool × PUnit) × PUnit) =>
                                  bif !y_9.fst.fst then some ((false, ()), ())
                                  else
                                    bif !y_4.fst.snd.fst == y.fst.snd.fst then some ((false, ()), ())
                                    else
                                      (S45 y_4.fst.fst 1).bind fun (y_10 : (Int × PUnit) × List (Int × Int) × PUnit) =>
                                        (S46 y_10.snd.fst 1).bind fun (y_11 : (Int × PUnit) × PUnit) =>
                                          bif decide (y_11.fst.fst < 0) then some ((false, ()), ())
                                          else
                                            bif y_11.fst.fst != y_10.fst.fst then some ((false, ()), ())
                                            else
                                              (S15 a0).bind
                                                fun
                                                  (y_12 :
                                                    (List ((Int × Int) × (Int × Int) × Int × Int) × PUnit) × PUnit) =>
                                                (S23 a1).bind fun (y_13 : ((Int × Int) × PUnit) × PUnit) =>
                                                  (S41 y_12.fst.fst y_13.fst.fst).bind
                                                    fun (y_14 : (List (Int × Int) × Bool × PUnit) × PUnit) =>
                                                    (S44 y_14.fst.fst y.fst.fst).bind
                                                      fun (y_15 : (Bool × PUnit) × PUnit) =>
                                                      bif !y_15.fst.fst then some ((false, ()), ())
                                                      else
                                                        bif !y_14.fst.snd.fst == y.fst.snd.fst then
                                                          some ((false, ()), ())
                                                        else
                                                          (S46 y_10.snd.fst 1).bind fun (y : (Int × PUnit) × PUnit) =>
                                                            bif decide (y.fst.fst < 0) then some ((false, ()), ())
                                                            else
                                                              bif y.fst.fst != y_10.fst.fst then some ((false, ()), ())
                                                              else some ((true, ()), ()) := by kernel_rfl
noncomputable def E47 : Env := mkEnv C tab9
  [0, 1, 2, 3, 4, 5, 8, 9, 10, 11, 12, 13, 14, 20, 39, 40, 42, 43, 54, 56, 57, 61, 63, 64, 70, 72, 81, 82, 84, 85] 95
  (fun (k : Nat) => bif k == 1000007 then some 13361 else none)
  (fun (d i : Nat) =>
    bif d == 14 then bif i == 0 then some 18 else bif i == 1 then some 19 else none
    else bif d == 20 then bif i == 0 then some 24 else bif i == 1 then some 25 else none else none)
  [(ty25, Mode.ro), (ty36, Mode.ro), (ty36, Mode.ro)]
noncomputable def K47 := endK C [(ty25, Mode.ro), (ty36, Mode.ro), (ty36, Mode.ro)] [(ty25, 1), (ty4, 0)] [RV.tmp 6, RV.tmp 7]
noncomputable def L47_7 (x0 : List ((Int × Int) × (Int × Int) × Int × Int)) (x4 : Int × Int) (x5 : Int × Int) (x10 : List (Int × Int)) (x12 : List ((Int × Int) × (Int × Int) × Int × Int)) (x13 : Int) : Option ((List ((Int × Int) × (Int × Int) × Int × Int) × Bool × PUnit) × PUnit) := loopAt E47 [1, 1, 1, 1, 1, 0, 1, 0] (Try.f47.body.getD .skip) K47 [V.d none 0 ty25 x0, V.dead, V.dead, V.dead, V.box none 0 ty36 x4, V.box none 0 ty36 x5, V.dead, V.dead, V.dead, V.dead,
  V.d none 1 ty63 x10, V.dead, V.d none ((minO none none).getD ty77.depth + 1) (Ty.slice 77 ty77) x12,
  V.d none 0 (Ty.int IntKind.i64) x13, V.dead, V.dead, V.dead, V.dead, V.dead, V.dead, V.dead, V.dead, V.dead, V.dead,
  V.dead, V.dead, V.dead, V.dead, V.dead, V.dead, V.dead, V.dead, V.dead, V.dead, V.dead, V.dead, V.dead, V.dead,
  V.dead, V.dead, V.dead, V.dead, V.dead, V.dead, V.dead, V.dead, V.dead, V.dead, V.dead, V.dead, V.dead, V.dead,
  V.dead, V.dead, V.dead, V.dead, V.dead, V.dead, V.dead, V.dead, V.dead, V.dead, V.dead, V.dead, V.dead, V.dead,
  V.dead, V.dead, V.dead, V.dead, V.dead, V.dead, V.dead, V.dead, V.dead, V.dead, V.dead, V.dead, V.dead, V.dead,
  V.dead, V.dead, V.dead, V.dead, V.dead, V.dead, V.dead, V.dead, V.dead, V.dead, V.dead, V.dead, V.dead, V.dead,
  V.dead]
theorem L47_7_eq (x0 : List ((Int × Int) × (Int × Int) × Int × Int)) (x4 : Int × Int) (x5 : Int × Int) (x10 : List (Int × Int)) (x12 : List ((Int × Int) × (Int × Int) × Int × Int)) (x13 : Int) : L47_7 x0 x4 x5 x10 x12 x13 =
  bif decide (x13 < (↑x0.length : Int)) then
  (getI x0 x13).bind fun (y : (Int × Int) × (Int × Int) × Int × Int) =>
    (S61 x4 y.fst).bind fun (y : (Bool × PUnit) × PUnit) =>
      bif y.fst.fst then
        (getI x0 x13).bind fun (y : (Int × Int) × (Int × Int) × Int × Int) =>
          (S61 y.fst x5).bind fun (y : (Bool × PUnit) × PUnit) =>
            bif y.fst.fst then
              (getI x0 x13).bind fun (y : (Int × Int) × (Int × Int) × Int × Int) =>
                bif decide ((x12.length + [y].length) * 48 ≤ 140737488355328) then
                  L47_7 x0 x4 x5 x10 (x12 ++ [y]) (IntKind.i64.wrap (x13 + 1))
                else none
            else L47_7 x0 x4 x5 x10 x12 (IntKind.i64.wrap (x13 + 1))
      else L47_7 x0 x4 x5 x10 x12 (IntKind.i64.wrap (x13 + 1))
else
  bif !(x4.fst == x5.fst && x4.snd == x5.snd) then
    (getI x10 0).bind fun (y : Int × Int) =>
      (getI x10 0).bind fun (y : Int × Int) =>
        (getI x10 1).bind fun (y_1 : Int × Int) =>
          (getI x10 1).bind fun (y_2 : Int × Int) =>
            bif decide ((x12.length + [(x5, y, y_2)].length) * 48 ≤ 140737488355328) then
              (S14 (x12 ++ [(x5, y, y_2)])).bind fun (y_3 : (Bool × PUnit) × PUnit) =>
                bif !y_3.fst.fst then some (([], false, ()), ()) else some ((x12 ++ [(x5, y, y_2)], true, ()), ())
            else none
  else
    (S14 x12).bind fun (y : (Bool × PUnit) × PUnit) =>
      bif !y.fst.fst then some (([], false, ()), ()) else some ((x12, true, ()), ()) := (loopAt_eq _ _ _ _ _).trans (by kernel_rfl)
noncomputable def S47 (a0 : List ((Int × Int) × (Int × Int) × Int × Int)) (a1 : Int × Int) (a2 : Int × Int) : Option ((List ((Int × Int) × (Int × Int) × Int × Int) × Bool × PUnit) × PUnit) := F47.sem (a0, a1, a2, ())
theorem S47_eq (a0 : List ((Int × Int) × (Int × Int) × Int × Int)) (a1 : Int × Int) (a2 : Int × Int) : S47 a0 a1 a2 =
  (S43 a0 a1).bind fun (y : (List (Int × Int) × Bool × PUnit) × PUnit) =>
  (S43 a0 a2).bind fun (y_1 : (List (Int × Int) × Bool × PUnit) × PUnit) =>
    bif !y.fst.snd.fst then some (([], false, ()), ())
    else
      bif !y_1.fst.snd.fst then some (([], false, ()), ())
      else
        (S61 a2 a1).bind fun (y_2 : (Bool × PUnit) × PUnit) =>
          bif y_2.fst.fst then some (([], false, ()), ())
          else
            (getI y.fst.fst 0).bind fun (y_3 : Int × Int) =>
              (getI y.fst.fst 0).bind fun (y_4 : Int × Int) =>
                (getI y.fst.fst 1).bind fun (y_5 : Int × Int) =>
                  (getI y.fst.fst 1).bind fun (y : Int × Int) => L47_7 a0 a1 a2 y_1.fst.fst [(a1, y_4, y)] 0 := by kernel_rfl
noncomputable def E48 : Env := mkEnv C tab47 [0, 1, 2, 3, 4, 5, 8, 9, 10, 11, 12, 13, 14, 15, 21, 40, 41, 43, 44, 48, 52, 54, 60, 76, 77, 79, 80] 89
  (fun (k : Nat) => bif k == 1000007 then some 1970324836979761 else none)
  (fun (d i : Nat) =>
    bif d == 15 then bif i == 0 then some 19 else bif i == 1 then some 20 else none
    else bif d == 21 then bif i == 0 then some 25 else bif i == 1 then some 26 else none else none)
  [(ty25, Mode.ro), (ty36, Mode.ro), (ty36, Mode.ro)]
noncomputable def K48 := endK C [(ty25, Mode.ro), (ty36, Mode.ro), (ty36, Mode.ro)] [(ty25, 1), (ty4, 0)] [RV.tmp 6, RV.tmp 7]
noncomputable def L48_7 (x0 : List ((Int × Int) × (Int × Int) × Int × Int)) (x4 : Int × Int) (x5 : Int × Int) (x10 : List (Int × Int)) (x12 : List ((Int × Int) × (Int × Int) × Int × Int)) (x48 : List ((Int × Int) × (Int × Int) × Int × Int)) (x49 : Int) (x50 : Int) : Option ((List ((Int × Int) × (Int × Int) × Int × Int) × Bool × PUnit) × PUnit) := loopAt E48 [1, 1, 1, 1, 1, 0, 1, 0] (Try.f48.body.getD .skip) K48 [V.d none 0 ty25 x0, V.dead, V.dead, V.dead, V.box none 0 ty36 x4, V.box none 0 ty36 x5, V.dead, V.dead, V.dead, V.dead,
  V.d none 1 ty63 x10, V.dead, V.d none ((minO none none).getD ty77.depth + 1) (Ty.slice 77 ty77) x12, V.dead, V.dead,
  V.dead, V.dead, V.dead, V.dead, V.dead, V.dead, V.dead, V.dead, V.dead, V.dead, V.dead, V.dead, V.dead, V.dead,
  V.dead, V.dead, V.dead, V.dead, V.dead, V.dead, V.dead, V.dead, V.dead, V.dead, V.dead, V.dead, V.dead, V.dead,
  V.dead, V.dead, V.dead, V.dead, V.dead, V.d none 0 ty25 x48, V.d none 0 (Ty.int IntKind.i64) x49,
  V.d none 0 (Ty.int IntKind.i64) x50, V.dead, V.dead, V.dead, V.dead, V.dead, V.dead, V.dead, V.dead, V.dead, V.dead,
  V.dead, V.dead, V.dead, V.dead, V.dead, V.dead, V.dead, V.dead, V.dead, V.dead, V.dead, V.dead, V.dead, V.dead,
  V.dead, V.dead, V.dead, V.dead, V.dead, V.dead, V.dead, V.dead, V.dead, V.dead, V.dead, V.dead, V.dead, V.dead]
theorem L48_7_eq (x0 : List ((Int × Int) × (Int × Int) × Int × Int)) (x4 : Int × Int) (x5 : Int × Int) (x10 : List (Int × Int)) (x12 : List ((Int × Int) × (Int × Int) × Int × Int)) (x48 : List ((Int × Int) × (Int × Int) × Int × Int)) (x49 : Int) (x50 : Int) : L48_7 x0 x4 x5 x10 x12 x48 x49 x50 =
  bif decide (x50 < x49) then
  (getI x48 x50).bind fun (y : (Int × Int) × (Int × Int) × Int × Int) =>
    (S51 y.fst x4).bind fun (y_1 : (Int × PUnit) × PUnit) =>
      bif decide (y_1.fst.fst > 0) then
        (S51 y.fst x5).bind fun (y_2 : (Int × PUnit) × PUnit) =>
          bif decide (y_2.fst.fst < 0) then
            bif decide ((x12.length + [y].length) * 48 ≤ 140737488355328) then
              L48_7 x0 x4 x5 x10 (x12 ++ [y]) x48 x49 (IntKind.i64.wrap (x50 + 1))
            else none
          else L48_7 x0 x4 x5 x10 x12 x48 x49 (IntKind.i64.wrap (x50 + 1))
      else L48_7 x0 x4 x5 x10 x12 x48 x49 (IntKind.i64.wrap (x50 + 1))
else
  bif !(x5.fst == x4.fst && x5.snd == x4.snd) then
    (getI x10 0).bind fun (y : Int × Int) =>
      (getI x10 0).bind fun (y : Int × Int) =>
        (getI x10 1).bind fun (y_1 : Int × Int) =>
          (getI x10 1).bind fun (y_2 : Int × Int) =>
            bif decide ((x12.length + [(x5, y, y_2)].length) * 48 ≤ 140737488355328) then
              (S16 (x12 ++ [(x5, y, y_2)])).bind fun (y_3 : (Bool × PUnit) × PUnit) =>
                bif !y_3.fst.fst then some (([], false, ()), ()) else some ((x12 ++ [(x5, y, y_2)], true, ()), ())
            else none
  else
    (S16 x12).bind fun (y : (Bool × PUnit) × PUnit) =>
      bif !y.fst.fst then some (([], false, ()), ()) else some ((x12, true, ()), ()) := (loopAt_eq _ _ _ _ _).trans (by kernel_rfl)
noncomputable def S48 (a0 : List ((Int × Int) × (Int × Int) × Int × Int)) (a1 : Int × Int) (a2 : Int × Int) : Option ((List ((Int × Int) × (Int × Int) × Int × Int) × Bool × PUnit) × PUnit) := F48.sem (a0, a1, a2, ())
theorem S48_eq (a0 : List ((Int × Int) × (Int × Int) × Int × Int)) (a1 : Int × Int) (a2 : Int × Int) : S48 a0 a1 a2 =
  (S41 a0 a1).bind fun (y : (List (Int × Int) × Bool × PUnit) × PUnit) =>
  (S41 a0 a2).bind fun (y_1 : (List (Int × Int) × Bool × PUnit) × PUnit) =>
    bif !y.fst.snd.fst then some (([], false, ()), ())
    else
      bif !y_1.fst.snd.fst then some (([], false, ()), ())
      else
        (S51 a2 a1).bind fun (y_2 : (Int × PUnit) × PUnit) =>
          bif decide (y_2.fst.fst < 0) then some (([], false, ()), ())
          else
            (getI y.fst.fst 0).bind fun (y_3 : Int × Int) =>
              (getI y.fst.fst 0).bind fun (y_4 : Int × Int) =>
                (getI y.fst.fst 1).bind fun (y_5 : Int × Int) =>
                  (getI y.fst.fst 1).bind fun (y : Int × Int) =>
                    L48_7 a0 a1 a2 y_1.fst.fst [(a1, y_4, y)] a0 (↑a0.length : Int) 0 := by kernel_rfl
noncomputable def E10 : Env := mkEnv C tab48 [0, 1, 2, 3, 4, 5, 7, 8, 9, 10, 11, 12, 13, 14, 15, 16, 17, 23, 35, 85] 112 (fun (x : Nat) => none)
  (fun (d i : Nat) =>
    bif d == 23 then bif i == 0 then some 31 else bif i == 1 then some 32 else none
    else
      bif d == 35 then bif i == 0 then some 42 else bif i == 1 then some 43 else none
      else bif d == 85 then bif i == 0 then some 93 else bif i == 1 then some 94 else none else none)
  [(ty22, Mode.ro), (ty34, Mode.ro), (ty34, Mode.ro)]
noncomputable def K10 := endK C [(ty22, Mode.ro), (ty34, Mode.ro), (ty34, Mode.ro)] [(ty4, 0)] [RV.tmp 6]
noncomputable def S10 (a0 : List ((Int × Int) × (Int × Int) × Int × Int)) (a1 : Int × Int) (a2 : Int × Int) : Option ((Bool × PUnit) × PUnit) := F10.sem (a0, a1, a2, ())
theorem S10_eq (a0 : List ((Int × Int) × (Int × Int) × Int × Int)) (a1 : Int × Int) (a2 : Int × Int) : S10 a0 a1 a2 =
  (S13 a0 1048576).bind fun (y : (Int × PUnit) × PUnit) =>
  bif decide (y.fst.fst < 0) then some ((true, ()), ())
  else
    (S15 a0).bind fun (y : (List ((Int × Int) × (Int × Int) × Int × Int) × PUnit) × PUnit) =>
      (S23 a1).bind fun (y_1 : ((Int × Int) × PUnit) × PUnit) =>
        (S23 a2).bind fun (y_2 : ((Int × Int) × PUnit) × PUnit) =>
          (S47 y.fst.fst y_1.fst.fst y_2.fst.fst).bind
            fun (y : (List ((Int × Int) × (Int × Int) × Int × Int) × Bool × PUnit) × PUnit) =>
            (S15 a0).bind fun (y_3 : (List ((Int × Int) × (Int × Int) × Int × Int) × PUnit) × PUnit) =>
              (S23 a1).bind fun (y_4 : ((Int × Int) × PUnit) × PUnit) =>
                (S23 a2).bind fun (y_5 : ((Int × Int) × PUnit) × PUnit) =>
                  (S48 y_3.fst.fst y_4.fst.fst y_5.fst.fst).bind
                    fun (y_6 : (List ((Int × Int) × (Int × Int) × Int × Int) × Bool × PUnit) × PUnit) =>
                    (S17 y_6.fst.fst y.fst.fst).bind fun (y_7 : (Bool × PUnit) × PUnit) =>
                      bif !y_7.fst.fst then some ((false, ()), ())
                      else
                        bif !y_6.fst.snd.fst == y.fst.snd.fst then some ((false, ()), ())
                        else
                          (S15 a0).bind fun (y_8 : (List ((Int × Int) × (Int × Int) × Int × Int) × PUnit) × PUnit) =>
                            (S17 y_3.fst.fst y_8.fst.fst).bind fun (y_9 : (Bool × PUnit) × PUnit) =>
                              bif !y_9.fst.fst then some ((false, ()), ())
                              else
                                (S20 y_3.fst.fst 1).bind
                                  fun (y_10 : (Int × PUnit) × List ((Int × Int) × (Int × Int) × Int × Int) × PUnit) =>
                                  bif decide (y_10.fst.fst < 0) then some ((false, ()), ())
                                  else
                                    (S17 y_6.fst.fst y.fst.fst).bind fun (y_11 : (Bool × PUnit) × PUnit) =>
                                      bif !y_11.fst.fst then some ((false, ()), ())
                                      else
                                        bif !y_6.fst.snd.fst == y.fst.snd.fst then some ((false, ()), ())
                                        else
                                          (S20 y_6.fst.fst 1).bind
                                            fun
                                              (y_12 :
                                                (Int × PUnit) × List ((Int × Int) × (Int × Int) × Int × Int) × PUnit) =>
                                            (S21 y_12.snd.fst 1).bind fun (y_13 : (Int × PUnit) × PUnit) =>
                                              bif decide (y_13.fst.fst < 0) then some ((false, ()), ())
                                              else
                                                bif y_13.fst.fst != y_12.fst.fst then some ((false, ()), ())
                                                else
                                                  (S15 a0).bind
                                                    fun
                                                      (y_14 :
                                                        (List ((Int × Int) × (Int × Int) × Int × Int) × PUnit) ×
                                                          PUnit) =>
                                                    (S23 a1).bind fun (y_15 : ((Int × Int) × PUnit) × PUnit) =>
                                                      (S23 a2).bind fun (y_16 : ((Int × Int) × PUnit) × PUnit) =>
                                                        (S48 y_14.fst.fst y_15.fst.fst y_16.fst.fst).bind
                                                          fun
                                                            (y_17 :
                                                              (List ((Int × Int) × (Int × Int) × Int × Int) ×
                                                                  Bool × PUnit) ×
                                                                PUnit) =>
                                                          (S17 y_17.fst.fst y.fst.fst).bind
                                                            fun (y_18 : (Bool × PUnit) × PUnit) =>
                                                            bif !y_18.fst.fst then some ((false, ()), ())
                                                            else
                                                              bif !y_17.fst.snd.fst == y.fst.snd.fst then
                                                                some ((false, ()), ())
                                                              else
                                                                (S21 y_12.snd.fst 1).bind
                                                                  fun (y : (Int × PUnit) × PUnit) =>
                                                                  bif decide (y.fst.fst < 0) then some ((false, ()), ())
                                                                  else
                                                                    bif y.fst.fst != y_12.fst.fst then
                                                                      some ((false, ()), ())
                                                                    else some ((true, ()), ()) := by kernel_rfl
end Go.Proofs.Ytdfcejijcnhcaaa.B.It
