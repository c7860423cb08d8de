/- A part of the proof: It3d. No conditions. -/
import Derived.Test.YtdfcejijcnhcaaaDIt2d
import Derived.Test.YtdfcejijcnhcaaaDG8
import Derived.Test.YtdfcejijcnhcaaaChecked
import Derived.KernelRfl
set_option linter.unusedVariables false
namespace Go.Proofs.Ytdfcejijcnhcaaa.D.It
open Am
noncomputable def E94 : Env := mkEnv C tab0 [0, 1, 2, 3] 12 (fun (x : Nat) => none)
  { hx := fun (x x_1 : Nat) => none, bx := fun (s : Nat) => Nat.testBit 0 s, kids := fun (x : Nat) => [] }
  [(ty45, Mode.ro), (ty3, Mode.ro)]
noncomputable def K94 := endK C [(ty45, Mode.ro), (ty3, Mode.ro)] [(ty3, 0)] [RV.tmp 4]
noncomputable def S94 (a0 : List Int) (a1 : Int) : Option ((Int × PUnit) × PUnit) := F94.sem (a0, a1, ())
theorem S94_eq (a0 : List Int) (a1 : Int) : S94 a0 a1 =
  bif decide (IntKind.i64.wrap (a1 - (↑a0.length : Int)) < 0) then some ((-1, ()), ())
else some ((IntKind.i64.wrap (a1 - (↑a0.length : Int)), ()), ()) := by kernel_rfl
noncomputable def E109 : Env := mkEnv C tab94 [0, 1, 2, 3, 5] 12 (fun (x : Nat) => none)
  { hx := fun (x x_1 : Nat) => none, bx := fun (s : Nat) => Nat.testBit 4 s,
    kids := fun (r : Nat) => bif r == 2 then [6] else [] }
  [(ty148, Mode.ro), (ty3, Mode.ro)]
noncomputable def K109 := endK C [(ty148, Mode.ro), (ty3, Mode.ro)] [(ty3, 0)] [RV.tmp 4]
noncomputable def S109 (a0 : List Int × Int × Bool) (a1 : Int) : Option ((Int × PUnit) × PUnit) := F109.sem (a0, a1, ())
theorem S109_eq (a0 : List Int × Int × Bool) (a1 : Int) : S109 a0 a1 =
  (S94 a0.fst a1).bind fun (y : (Int × PUnit) × PUnit) =>
  bif decide (y.fst.fst < 0) then some ((-1, ()), ()) else some ((y.fst.fst, ()), ()) := by kernel_rfl
noncomputable def E72 : Env := mkEnv C tab109 [0, 1, 2, 3, 5, 18, 20] 27 (fun (k : Nat) => bif k == 1000005 then some 35 else none)
  { hx := fun (x x_1 : Nat) => none, bx := fun (s : Nat) => Nat.testBit 0 s, kids := fun (x : Nat) => [] }
  [(ty42, Mode.ro), (ty3, Mode.ro)]
noncomputable def K72 := endK C [(ty42, Mode.ro), (ty3, Mode.ro)] [(ty3, 0)] [RV.tmp 4]
noncomputable def L72_5 (x0 : List (List Int × Int × Bool)) (x1 : Int) (x5 : Int) : Option ((Int × PUnit) × PUnit) := loopAt E72 [1, 1, 1, 0, 1, 0] (Try.f72.body.getD .skip) K72 [V.d none 0 ty42 x0, V.d none 0 (Ty.int IntKind.i64) x1, V.dead, V.dead, V.dead, V.d none 0 (Ty.int IntKind.i64) x5,
  V.dead, V.dead, V.dead, V.dead, V.dead, V.dead, V.dead, V.dead, V.dead, V.dead, V.dead, V.dead, V.dead, V.dead,
  V.dead, V.dead, V.dead, V.dead, V.dead, V.dead, V.dead]
theorem L72_5_eq (x0 : List (List Int × Int × Bool)) (x1 : Int) (x5 : Int) : L72_5 x0 x1 x5 =
  bif decide (x5 < (↑x0.length : Int)) then
  (getI x0 x5).bind fun (y : List Int × Int × Bool) =>
    (S109 y x1).bind fun (y : (Int × PUnit) × PUnit) =>
      bif decide (y.fst.fst < 0) then some ((-1, ()), ()) else L72_5 x0 y.fst.fst (IntKind.i64.wrap (x5 + 1))
else some ((x1, ()), ()) := (loopAt_eq _ _ _ _ _).trans (by kernel_rfl)
noncomputable def S72 (a0 : List (List Int × Int × Bool)) (a1 : Int) : Option ((Int × PUnit) × PUnit) := F72.sem (a0, a1, ())
theorem S72_eq (a0 : List (List Int × Int × Bool)) (a1 : Int) : S72 a0 a1 =
  bif decide (IntKind.i64.wrap (a1 - (↑a0.length : Int)) < 0) then some ((-1, ()), ())
else L72_5 a0 (IntKind.i64.wrap (a1 - (↑a0.length : Int))) 0 := by kernel_rfl
noncomputable def E28 : Env := mkEnv C tab72 [0, 1, 2, 3, 5] 12 (fun (x : Nat) => none)
  { hx := fun (x x_1 : Nat) => none, bx := fun (s : Nat) => Nat.testBit 4 s,
    kids := fun (r : Nat) => bif r == 2 then [6] else [] }
  [(ty44, Mode.ro), (ty3, Mode.ro)]
noncomputable def K28 := endK C [(ty44, Mode.ro), (ty3, Mode.ro)] [(ty3, 0)] [RV.tmp 4]
noncomputable def S28 (a0 : Int × List (List Int × Int × Bool)) (a1 : Int) : Option ((Int × PUnit) × PUnit) := F28.sem (a0, a1, ())
theorem S28_eq (a0 : Int × List (List Int × Int × Bool)) (a1 : Int) : S28 a0 a1 =
  (S72 a0.snd a1).bind fun (y : (Int × PUnit) × PUnit) =>
  bif decide (y.fst.fst < 0) then some ((-1, ()), ()) else some ((y.fst.fst, ()), ()) := by kernel_rfl
noncomputable def E31 : Env := mkEnv C tab28 [0, 1, 3, 4, 14, 16, 18] 22 (fun (k : Nat) => bif k == 1000003 then some 25 else none)
  { hx := fun (x x_1 : Nat) => none, bx := fun (s : Nat) => Nat.testBit 0 s, kids := fun (x : Nat) => [] }
  [(ty45, Mode.ro)]
noncomputable def K31 := endK C [(ty45, Mode.ro)] [(ty45, 1)] [RV.tmp 2]
noncomputable def L31_3 (x0 : List Int) (x3 : List Int) (x4 : Int) : Option ((List Int × PUnit) × PUnit) := loopAt E31 [1, 1, 0, 1, 0] (Try.f31.body.getD .skip) K31 [V.d none 0 ty45 x0, V.dead, V.dead, V.d none (ty3.depth + 1) (Ty.slice 3 ty3) x3, V.d none 0 (Ty.int IntKind.i64) x4,
  V.dead, V.dead, V.dead, V.dead, V.dead, V.dead, V.dead, V.dead, V.dead, V.dead, V.dead, V.dead, V.dead, V.dead,
  V.dead, V.dead, V.dead]
theorem L31_3_eq (x0 : List Int) (x3 : List Int) (x4 : Int) : L31_3 x0 x3 x4 =
  bif decide (x4 < (↑x0.length : Int)) then
  (getI x0 x4).bind fun (y : Int) =>
    (getI x3 x4).bind fun (y_1 : Int) =>
      (getI x3 x4).bind fun (y_2 : Int) =>
        (getI x3 x4).bind fun (y_3 : Int) => L31_3 x0 (x3.set x4.toNat y) (IntKind.i64.wrap (x4 + 1))
else some ((x3, ()), ()) := (loopAt_eq _ _ _ _ _).trans (by kernel_rfl)
noncomputable def S31 (a0 : List Int) : Option ((List Int × PUnit) × PUnit) := F31.sem (a0, ())
theorem S31_eq (a0 : List Int) : S31 a0 =
  bif
    decide (0 ≤ (↑a0.length : Int)) && decide ((↑a0.length : Int) ≤ (↑a0.length : Int)) &&
        decide ((↑a0.length : Int) * (↑8 : Int) ≤ 140737488355328) &&
      decide ((↑a0.length : Int) ≤ 9223372036854775807) then
  L31_3 a0 (List.replicate (↑a0.length : Int).toNat ty3.zero) 0
else none := by kernel_rfl
noncomputable def E112 : Env := mkEnv C tab31 [0, 1, 2, 3, 4, 8, 11] 15
  (fun (k : Nat) =>
    bif k == 2 then some 14
    else bif k == 3 then some 14 else bif k == 4 then some 14 else bif k == 5 then some 12 else none)
  { hx := fun (x x_1 : Nat) => none, bx := fun (s : Nat) => Nat.testBit 14 s,
    kids := fun (r : Nat) => bif r == 1 then [5] else bif r == 2 then [] else bif r == 3 then [14] else [] }
  [(ty148, Mode.ro)]
noncomputable def K112 := endK C [(ty148, Mode.ro)] [(ty115, 1)] [RV.cell 2 115]
noncomputable def S112 (a0 : List Int × Int × Bool) : Option (((List Int × Int × Bool) × PUnit) × PUnit) := F112.sem (a0, ())
theorem S112_eq (a0 : List Int × Int × Bool) : S112 a0 =
  (S31 a0.fst).bind fun (y : (List Int × PUnit) × PUnit) => some (((y.fst.fst, a0.snd.fst, a0.snd.snd), ()), ()) := by kernel_rfl
noncomputable def E75 : Env := mkEnv C tab112 [0, 1, 3, 4, 14, 16, 18] 23 (fun (k : Nat) => bif k == 1000003 then some 25 else none)
  { hx := fun (x x_1 : Nat) => none, bx := fun (s : Nat) => Nat.testBit 0 s, kids := fun (x : Nat) => [] }
  [(ty42, Mode.ro)]
noncomputable def K75 := endK C [(ty42, Mode.ro)] [(ty47, 2)] [RV.tmp 2]
noncomputable def L75_3 (x0 : List (List Int × Int × Bool)) (x3 : List (List Int × Int × Bool)) (x4 : Int) : Option ((List (List Int × Int × Bool) × PUnit) × PUnit) := loopAt E75 [1, 1, 0, 1, 0] (Try.f75.body.getD .skip) K75 [V.d none 0 ty42 x0, V.dead, V.dead, V.d none (ty115.depth + 1) (Ty.slice 115 ty115) x3,
  V.d none 0 (Ty.int IntKind.i64) x4, V.dead, V.dead, V.dead, V.dead, V.dead, V.dead, V.dead, V.dead, V.dead, V.dead,
  V.dead, V.dead, V.dead, V.dead, V.dead, V.dead, V.dead, V.dead]
theorem L75_3_eq (x0 : List (List Int × Int × Bool)) (x3 : List (List Int × Int × Bool)) (x4 : Int) : L75_3 x0 x3 x4 =
  bif decide (x4 < (↑x0.length : Int)) then
  (getI x0 x4).bind fun (y : List Int × Int × Bool) =>
    (S112 y).bind fun (y : ((List Int × Int × Bool) × PUnit) × PUnit) =>
      (getI x3 x4).bind fun (y_1 : List Int × Int × Bool) =>
        (getI x3 x4).bind fun (y_2 : List Int × Int × Bool) =>
          (getI x3 x4).bind fun (y_3 : List Int × Int × Bool) =>
            L75_3 x0 (x3.set x4.toNat y.fst.fst) (IntKind.i64.wrap (x4 + 1))
else some ((x3, ()), ()) := (loopAt_eq _ _ _ _ _).trans (by kernel_rfl)
noncomputable def S75 (a0 : List (List Int × Int × Bool)) : Option ((List (List Int × Int × Bool) × PUnit) × PUnit) := F75.sem (a0, ())
theorem S75_eq (a0 : List (List Int × Int × Bool)) : S75 a0 =
  bif
    decide (0 ≤ (↑a0.length : Int)) && decide ((↑a0.length : Int) ≤ (↑a0.length : Int)) &&
        decide ((↑a0.length : Int) * (↑40 : Int) ≤ 140737488355328) &&
      decide ((↑a0.length : Int) ≤ 9223372036854775807) then
  L75_3 a0 (List.replicate (↑a0.length : Int).toNat ty115.zero) 0
else none := by kernel_rfl
noncomputable def E30 : Env := mkEnv C tab75 [0, 1, 2, 3, 4, 7] 12
  (fun (k : Nat) => bif k == 2 then some 14 else bif k == 3 then some 14 else bif k == 4 then some 12 else none)
  { hx := fun (x x_1 : Nat) => none, bx := fun (s : Nat) => Nat.testBit 14 s,
    kids := fun (r : Nat) => bif r == 1 then [8] else bif r == 2 then [] else bif r == 3 then [11] else [] }
  [(ty44, Mode.ro)]
noncomputable def K30 := endK C [(ty44, Mode.ro)] [(ty49, 2)] [RV.cell 2 49]
noncomputable def S30 (a0 : Int × List (List Int × Int × Bool)) : Option (((Int × List (List Int × Int × Bool)) × PUnit) × PUnit) := F30.sem (a0, ())
theorem S30_eq (a0 : Int × List (List Int × Int × Bool)) : S30 a0 =
  (S75 a0.snd).bind fun (y : (List (List Int × Int × Bool) × PUnit) × PUnit) => some (((a0.fst, y.fst.fst), ()), ()) := by kernel_rfl
noncomputable def E62 : Env := mkEnv C tab30 [0, 1, 2, 3, 4, 5] 15 (fun (x : Nat) => none)
  { hx := fun (x x_1 : Nat) => none, bx := fun (s : Nat) => Nat.testBit 0 s, kids := fun (x : Nat) => [] }
  [(ty3, Mode.ro), (ty3, Mode.ro), (ty3, Mode.ro)]
noncomputable def K62 := endK C [(ty3, Mode.ro), (ty3, Mode.ro), (ty3, Mode.ro)] [(ty4, 0)] [RV.tmp 6]
noncomputable def S62 (a0 : Int) (a1 : Int) (a2 : Int) : Option ((Bool × PUnit) × PUnit) := F62.sem (a0, a1, a2, ())
theorem S62_eq (a0 : Int) (a1 : Int) (a2 : Int) : S62 a0 a1 a2 =
  bif decide (a0 ≥ a1) then some ((decide (a0 ≤ a2), ()), ()) else some ((false, ()), ()) := by kernel_rfl
noncomputable def E103 : Env := mkEnv C tab62 [0, 1] 5 (fun (x : Nat) => none)
  { hx := fun (x x_1 : Nat) => none, bx := fun (s : Nat) => Nat.testBit 0 s, kids := fun (x : Nat) => [] }
  [(ty3, Mode.ro)]
noncomputable def K103 := endK C [(ty3, Mode.ro)] [(ty4, 0)] [RV.tmp 2]
noncomputable def S103 (a0 : Int) : Option ((Bool × PUnit) × PUnit) := F103.sem (a0, ())
theorem S103_eq (a0 : Int) : S103 a0 =
  (S62 a0 (-400000000) 400000000).bind fun (y : (Bool × PUnit) × PUnit) => some ((y.fst.fst, ()), ()) := by kernel_rfl
noncomputable def E124 : Env := mkEnv C tab103 [0, 1] 7 (fun (x : Nat) => none)
  { hx := fun (x x_1 : Nat) => none, bx := fun (s : Nat) => Nat.testBit 0 s, kids := fun (x : Nat) => [] }
  [(ty3, Mode.ro)]
noncomputable def K124 := endK C [(ty3, Mode.ro)] [(ty3, 0)] [RV.tmp 2]
noncomputable def S124 (a0 : Int) : Option ((Int × PUnit) × PUnit) := F124.sem (a0, ())
theorem S124_eq (a0 : Int) : S124 a0 =
  some
  ((bif true then if a0 < IntKind.i64.wrap (0 - a0) then IntKind.i64.wrap (0 - a0) else a0
      else if IntKind.i64.wrap (0 - a0) < a0 then IntKind.i64.wrap (0 - a0) else a0,
      ()),
    ()) := by kernel_rfl
noncomputable def E111 : Env := mkEnv C tab124 [0, 1, 2, 3, 5, 6, 7, 16, 18] 28
  (fun (k : Nat) => bif k == 1000003 then some 97 else bif k == 1000006 then some 225 else none)
  { hx := fun (x x_1 : Nat) => none, bx := fun (s : Nat) => Nat.testBit 0 s, kids := fun (x : Nat) => [] }
  [(ty45, Mode.ro), (ty3, Mode.ro)]
noncomputable def K111 := endK C [(ty45, Mode.ro), (ty3, Mode.ro)] [(ty3, 0)] [RV.tmp 4]
noncomputable def L111_6 (x0 : List Int) (x5 : Int) (x6 : Int) (x7 : Int) : Option ((Int × PUnit) × PUnit) := loopAt E111 [1, 1, 0, 1, 0, 0, 1, 0, 0, 1, 0] (Try.f111.body.getD .skip) K111 [V.d none 0 ty45 x0, V.dead, V.dead, V.dead, V.dead, V.d none 0 ty3 x5, V.d none 0 (Ty.int IntKind.i64) x6,
  V.d none 0 ty3 x7, V.dead, V.dead, V.dead, V.dead, V.dead, V.dead, V.dead, V.dead, V.dead, V.dead, V.dead, V.dead,
  V.dead, V.dead, V.dead, V.dead, V.dead, V.dead, V.dead, V.dead]
noncomputable def L111_3 (x0 : List Int) (x5 : Int) (x6 : Int) : Option ((Int × PUnit) × PUnit) := loopAt E111 [1, 1, 0, 1, 0] (Try.f111.body.getD .skip) K111 [V.d none 0 ty45 x0, V.dead, V.dead, V.dead, V.dead, V.d none 0 ty3 x5, V.d none 0 (Ty.int IntKind.i64) x6, V.dead,
  V.dead, V.dead, V.dead, V.dead, V.dead, V.dead, V.dead, V.dead, V.dead, V.dead, V.dead, V.dead, V.dead, V.dead,
  V.dead, V.dead, V.dead, V.dead, V.dead, V.dead]
theorem L111_6_eq (x0 : List Int) (x5 : Int) (x6 : Int) (x7 : Int) : L111_6 x0 x5 x6 x7 =
  bif x7 != 0 then bif x7 != 0 then L111_6 x0 x7 x6 (x5.tmod x7) else none else L111_3 x0 x5 (IntKind.i64.wrap (x6 + 1)) := (loopAt_eq _ _ _ _ _).trans (by kernel_rfl)
theorem L111_3_eq (x0 : List Int) (x5 : Int) (x6 : Int) : L111_3 x0 x5 x6 =
  bif decide (x6 < (↑x0.length : Int)) then
  (getI x0 x6).bind fun (y : Int) => (S124 y).bind fun (y : (Int × PUnit) × PUnit) => L111_6 x0 x5 x6 y.fst.fst
else some ((x5, ()), ()) := (loopAt_eq _ _ _ _ _).trans (by kernel_rfl)
noncomputable def S111 (a0 : List Int) (a1 : Int) : Option ((Int × PUnit) × PUnit) := F111.sem (a0, a1, ())
theorem S111_eq (a0 : List Int) (a1 : Int) : S111 a0 a1 =
  (S124 a1).bind fun (y : (Int × PUnit) × PUnit) => L111_3 a0 y.fst.fst 0 := by kernel_rfl
noncomputable def E110 : Env := mkEnv C tab111 [0, 1, 3, 4, 9, 15, 21, 22, 24, 28, 30] 34
  (fun (k : Nat) => bif k == 1 then some 6 else bif k == 4 then some 14 else bif k == 1000004 then some 10 else none)
  { hx := fun (x x_1 : Nat) => none, bx := fun (s : Nat) => Nat.testBit 2 s,
    kids := fun (r : Nat) => bif r == 1 then [5, 16, 22, 24, 29] else [] }
  [(ty115, Mode.ro)]
noncomputable def K110 := endK C [(ty115, Mode.ro)] [(ty4, 0)] [RV.tmp 2]
noncomputable def L110_4 (x1 : List Int × Int × Bool) (x3 : Int) : Option ((Bool × PUnit) × PUnit) := loopAt E110 [1, 1, 0, 1, 0] (Try.f110.body.getD .skip) K110 [V.dead, V.box none 0 ty115 x1, V.dead, V.d none 0 (Ty.int IntKind.i64) x3, V.dead, V.dead, V.dead, V.dead, V.dead,
  V.dead, V.dead, V.dead, V.dead, V.dead, V.dead, V.dead, V.dead, V.dead, V.dead, V.dead, V.dead, V.dead, V.dead,
  V.dead, V.dead, V.dead, V.dead, V.dead, V.dead, V.dead, V.dead, V.dead, V.dead, V.dead]
theorem L110_4_eq (x1 : List Int × Int × Bool) (x3 : Int) : L110_4 x1 x3 =
  bif decide (x3 < (↑(List.length x1.fst) : Int)) then
  (getI x1.fst x3).bind fun (y : Int) =>
    (S103 y).bind fun (y : (Bool × PUnit) × PUnit) =>
      bif !y.fst.fst then some ((false, ()), ()) else L110_4 x1 (IntKind.i64.wrap (x3 + 1))
else (S111 x1.fst x1.snd.fst).bind fun (y : (Int × PUnit) × PUnit) => some ((decide (y.fst.fst ≤ 1), ()), ()) := (loopAt_eq _ _ _ _ _).trans (by kernel_rfl)
noncomputable def S110 (a0 : List Int × Int × Bool) : Option ((Bool × PUnit) × PUnit) := F110.sem (a0, ())
theorem S110_eq (a0 : List Int × Int × Bool) : S110 a0 =
  bif decide ((↑(List.length a0.fst) : Int) > 4) then some ((false, ()), ())
else
  (S103 a0.snd.fst).bind fun (y : (Bool × PUnit) × PUnit) => bif !y.fst.fst then some ((false, ()), ()) else L110_4 a0 0 := by kernel_rfl
noncomputable def E73 : Env := mkEnv C tab110 [0, 1, 3, 5, 11, 12, 14, 19, 20, 22, 23, 26, 30, 34] 39
  (fun (k : Nat) =>
    bif k == 2 then some 14
    else bif k == 4 then some 14 else bif k == 6 then some 6 else bif k == 1000002 then some 10 else none)
  { hx := fun (x x_1 : Nat) => none, bx := fun (s : Nat) => Nat.testBit 2 s,
    kids := fun (r : Nat) => bif r == 1 then [6, 12, 14, 15, 20, 22, 23, 24, 35] else [] }
  [(ty49, Mode.ro)]
noncomputable def K73 := endK C [(ty49, Mode.ro)] [(ty4, 0)] [RV.tmp 2]
noncomputable def L73_2 (x1 : Int × List (List Int × Int × Bool)) (x3 : Int) : Option ((Bool × PUnit) × PUnit) := loopAt E73 [1, 0, 1, 0] (Try.f73.body.getD .skip) K73 [V.dead, V.box none 0 ty49 x1, V.dead, V.d none 0 (Ty.int IntKind.i64) x3, V.dead, V.dead, V.dead, V.dead, V.dead,
  V.dead, V.dead, V.dead, V.dead, V.dead, V.dead, V.dead, V.dead, V.dead, V.dead, V.dead, V.dead, V.dead, V.dead,
  V.dead, V.dead, V.dead, V.dead, V.dead, V.dead, V.dead, V.dead, V.dead, V.dead, V.dead, V.dead, V.dead, V.dead,
  V.dead, V.dead]
theorem L73_2_eq (x1 : Int × List (List Int × Int × Bool)) (x3 : Int) : L73_2 x1 x3 =
  bif decide (x3 < (↑(List.length x1.snd) : Int)) then
  (getI x1.snd x3).bind fun (y : List Int × Int × Bool) =>
    (S110 y).bind fun (y : (Bool × PUnit) × PUnit) =>
      bif !y.fst.fst then some ((false, ()), ())
      else
        (getI x1.snd x3).bind fun (y : List Int × Int × Bool) =>
          bif (↑(List.length y.fst) : Int) != x1.fst then some ((false, ()), ())
          else L73_2 x1 (IntKind.i64.wrap (x3 + 1))
else
  (S62 x1.fst 0 4).bind fun (y : (Bool × PUnit) × PUnit) =>
    bif y.fst.fst then some ((decide ((↑(List.length x1.snd) : Int) ≤ 16), ()), ()) else some ((false, ()), ()) := (loopAt_eq _ _ _ _ _).trans (by kernel_rfl)
noncomputable def S73 (a0 : Int × List (List Int × Int × Bool)) : Option ((Bool × PUnit) × PUnit) := F73.sem (a0, ())
theorem S73_eq (a0 : Int × List (List Int × Int × Bool)) : S73 a0 =
  L73_2 a0 0 := by kernel_rfl
noncomputable def E74 : Env := mkEnv C tab73 [0, 1, 2, 3, 4, 5, 6, 8, 9, 10, 26, 28, 30] 42
  (fun (k : Nat) =>
    bif k == 1 then some 199
    else
      bif k == 2 then some 455
      else
        bif k == 4 then some 1985
        else
          bif k == 6 then some 1985
          else bif k == 8 then some 192 else bif k == 9 then some 704 else bif k == 1000004 then some 1857 else none)
  { hx := fun (x x_1 : Nat) => none, bx := fun (s : Nat) => Nat.testBit 576 s,
    kids := fun (r : Nat) => bif r == 6 then [] else bif r == 9 then [27, 37, 41] else [] }
  [(ty45, Mode.ro), (ty3, Mode.ro), (ty4, Mode.ro)]
noncomputable def K74 := endK C [(ty45, Mode.ro), (ty3, Mode.ro), (ty4, Mode.ro)] [(ty115, 1), (ty4, 0)] [RV.cell 6 115, RV.tmp 7]
noncomputable def L74_4 (x0 : List Int) (x6 : List Int × Int × Bool) (x8 : Int) (x9 : List Int × Int × Bool) (x10 : Int) : Option (((List Int × Int × Bool) × Bool × PUnit) × PUnit) := loopAt E74 [1, 1, 1, 0, 1, 0] (Try.f74.body.getD .skip) K74 [V.d none 0 ty45 x0, V.dead, V.dead, V.dead, V.dead, V.dead, V.box none ty115.depth ty115 x6, V.dead,
  V.d none 0 (Ty.int IntKind.i64) x8, V.box none ty115.depth ty115 x9, V.d none 0 (Ty.int IntKind.i64) x10, V.dead,
  V.dead, V.dead, V.dead, V.dead, V.dead, V.dead, V.dead, V.dead, V.dead, V.dead, V.dead, V.dead, V.dead, V.dead,
  V.dead, V.dead, V.dead, V.dead, V.dead, V.dead, V.dead, V.dead, V.dead, V.dead, V.dead, V.dead, V.dead, V.dead,
  V.dead, V.dead]
theorem L74_4_eq (x0 : List Int) (x6 : List Int × Int × Bool) (x8 : Int) (x9 : List Int × Int × Bool) (x10 : Int) : L74_4 x0 x6 x8 x9 x10 =
  bif decide (x10 < (↑x0.length : Int)) then
  (getI x0 x10).bind fun (y : Int) =>
    bif x8 != 0 then
      bif decide ((List.length x9.fst + [IntKind.i64.wrap (y.tdiv x8)].length) * 8 ≤ 140737488355328) then
        L74_4 x0 x6 x8 (x9.fst ++ [IntKind.i64.wrap (y.tdiv x8)], x9.snd) (IntKind.i64.wrap (x10 + 1))
      else none
    else none
else
  (S110 x9).bind fun (y : (Bool × PUnit) × PUnit) =>
    bif !y.fst.fst then some (((ty45.zero, ty3.zero, Ty.bool.zero), false, ()), ()) else some ((x9, true, ()), ()) := (loopAt_eq _ _ _ _ _).trans (by kernel_rfl)
noncomputable def S74 (a0 : List Int) (a1 : Int) (a2 : Bool) : Option (((List Int × Int × Bool) × Bool × PUnit) × PUnit) := F74.sem (a0, a1, a2, ())
theorem S74_eq (a0 : List Int) (a1 : Int) (a2 : Bool) : S74 a0 a1 a2 =
  (S111 a0 a1).bind fun (y : (Int × PUnit) × PUnit) =>
  bif (bif true then if 1 < y.fst.fst then y.fst.fst else 1 else if y.fst.fst < 1 then y.fst.fst else 1) != 0 then
    L74_4 a0 ty115.zero
      (bif true then if 1 < y.fst.fst then y.fst.fst else 1 else if y.fst.fst < 1 then y.fst.fst else 1)
      (ty45.zero,
        IntKind.i64.wrap
          (a1.tdiv (bif true then if 1 < y.fst.fst then y.fst.fst else 1 else if y.fst.fst < 1 then y.fst.fst else 1)),
        a2)
      0
  else none := by kernel_rfl
noncomputable def E29 : Env := mkEnv C tab74
  (have y :=
    have y :=
      have y := [76, 77, 79, 80, 88];
      68 :: 69 :: 70 :: 72 :: 73 :: y;
    have y := 57 :: 58 :: 60 :: 62 :: 64 :: y;
    45 :: 47 :: 53 :: 54 :: 56 :: y;
  have y :=
    have y := 33 :: 34 :: 36 :: 37 :: 40 :: y;
    10 :: 11 :: 18 :: 23 :: 27 :: y;
  have y := 4 :: 6 :: 7 :: 8 :: 9 :: y;
  0 :: 1 :: 2 :: 3 :: y)
  95
  (fun (k : Nat) =>
    bif k == 1 then some 54
    else
      bif k == 2 then some 48
      else
        bif k == 3 then some 54
        else
          bif k == 5 then some 246
          else
            bif k == 12 then some 48
            else
              bif k == 14 then some 502
              else
                bif k == 16 then some 48
                else
                  bif k == 17 then some 1270
                  else
                    bif k == 18 then some 112
                    else bif k == 1000005 then some 214 else bif k == 1000009 then some 982 else none)
  { hx := fun (d i : Nat) => bif d == 68 then bif i == 0 then some 83 else bif i == 1 then some 84 else none else none,
    bx := fun (s : Nat) => Nat.testBit 1108 s,
    kids := fun (r : Nat) =>
      bif r == 2 then [12, 28, 34, 36, 37, 54, 56, 57, 58, 60, 70, 72, 73, 74, 77, 79, 80]
      else bif r == 4 then [] else bif r == 6 then [89, 94] else bif r == 10 then [90] else [] }
  [(ty49, Mode.ro), (ty45, Mode.ro)]
noncomputable def K29 := endK C [(ty49, Mode.ro), (ty45, Mode.ro)] [(ty49, 2), (ty4, 0)] [RV.cell 4 49, RV.tmp 5]
noncomputable def L29_9 (x1 : List Int) (x2 : Int × List (List Int × Int × Bool)) (x4 : Int × List (List Int × Int × Bool)) (x6 : Int × List (List Int × Int × Bool)) (x7 : Int) (x8 : Int) (x9 : Int) : Option (((Int × List (List Int × Int × Bool)) × Bool × PUnit) × PUnit) := loopAt E29 [1, 1, 1, 0, 1, 0, 0, 1, 0, 0, 1, 0, 1, 0] (Try.f29.body.getD .skip) K29 [V.dead, V.d none 0 ty45 x1, V.box none 0 ty49 x2, V.dead, V.box none ty49.depth ty49 x4, V.dead,
  V.box none ty49.depth ty49 x6, V.d none 0 (Ty.int IntKind.i64) x7, V.d none 0 ty3 x8,
  V.d none 0 (Ty.int IntKind.i64) x9, V.dead, V.dead, V.dead, V.dead, V.dead, V.dead, V.dead, V.dead, V.dead, V.dead,
  V.dead, V.dead, V.dead, V.dead, V.dead, V.dead, V.dead, V.dead, V.dead, V.dead, V.dead, V.dead, V.dead, V.dead,
  V.dead, V.dead, V.dead, V.dead, V.dead, V.dead, V.dead, V.dead, V.dead, V.dead, V.dead, V.dead, V.dead, V.dead,
  V.dead, V.dead, V.dead, V.dead, V.dead, V.dead, V.dead, V.dead, V.dead, V.dead, V.dead, V.dead, V.dead, V.dead,
  V.dead, V.dead, V.dead, V.dead, V.dead, V.dead, V.dead, V.dead, V.dead, V.dead, V.dead, V.dead, V.dead, V.dead,
  V.dead, V.dead, V.dead, V.dead, V.dead, V.dead, V.dead, V.dead, V.dead, V.dead, V.dead, V.dead, V.dead, V.dead,
  V.dead, V.dead, V.dead, V.dead, V.dead]
noncomputable def L29_5 (x1 : List Int) (x2 : Int × List (List Int × Int × Bool)) (x4 : Int × List (List Int × Int × Bool)) (x6 : Int × List (List Int × Int × Bool)) (x7 : Int) : Option (((Int × List (List Int × Int × Bool)) × Bool × PUnit) × PUnit) := loopAt E29 [1, 1, 1, 0, 1, 0] (Try.f29.body.getD .skip) K29 [V.dead, V.d none 0 ty45 x1, V.box none 0 ty49 x2, V.dead, V.box none ty49.depth ty49 x4, V.dead,
  V.box none ty49.depth ty49 x6, V.d none 0 (Ty.int IntKind.i64) x7, V.dead, V.dead, V.dead, V.dead, V.dead, V.dead,
  V.dead, V.dead, V.dead, V.dead, V.dead, V.dead, V.dead, V.dead, V.dead, V.dead, V.dead, V.dead, V.dead, V.dead,
  V.dead, V.dead, V.dead, V.dead, V.dead, V.dead, V.dead, V.dead, V.dead, V.dead, V.dead, V.dead, V.dead, V.dead,
  V.dead, V.dead, V.dead, V.dead, V.dead, V.dead, V.dead, V.dead, V.dead, V.dead, V.dead, V.dead, V.dead, V.dead,
  V.dead, V.dead, V.dead, V.dead, V.dead, V.dead, V.dead, V.dead, V.dead, V.dead, V.dead, V.dead, V.dead, V.dead,
  V.dead, V.dead, V.dead, V.dead, V.dead, V.dead, V.dead, V.dead, V.dead, V.dead, V.dead, V.dead, V.dead, V.dead,
  V.dead, V.dead, V.dead, V.dead, V.dead, V.dead, V.dead, V.dead, V.dead, V.dead, V.dead]
theorem L29_9_eq (x1 : List Int) (x2 : Int × List (List Int × Int × Bool)) (x4 : Int × List (List Int × Int × Bool)) (x6 : Int × List (List Int × Int × Bool)) (x7 : Int) (x8 : Int) (x9 : Int) : L29_9 x1 x2 x4 x6 x7 x8 x9 =
  bif decide (x9 < x2.fst) then
  (getI x1 x9).bind fun (y : Int) =>
    (S62 y (-1000) 1000).bind fun (y : (Bool × PUnit) × PUnit) =>
      bif !y.fst.fst then some (((ty3.zero, (Ty.slice 115 ty115).zero), false, ()), ())
      else
        (getI x2.snd x7).bind fun (y : List Int × Int × Bool) =>
          (getI y.fst x9).bind fun (y : Int) =>
            (getI x1 x9).bind fun (y_1 : Int) =>
              L29_9 x1 x2 x4 x6 x7 (IntKind.i64.wrap (x8 - IntKind.i64.wrap (y * y_1))) (IntKind.i64.wrap (x9 + 1))
else
  (getI x2.snd x7).bind fun (y : List Int × Int × Bool) =>
    (getI x2.snd x7).bind fun (y_1 : List Int × Int × Bool) =>
      (S74 y.fst x8 y_1.snd.snd).bind fun (y : ((List Int × Int × Bool) × Bool × PUnit) × PUnit) =>
        bif !y.fst.snd.fst then some (((ty3.zero, (Ty.slice 115 ty115).zero), false, ()), ())
        else
          bif decide ((List.length x6.snd + [y.fst.fst].length) * 40 ≤ 140737488355328) then
            L29_5 x1 x2 x4 (x6.fst, x6.snd ++ [y.fst.fst]) (IntKind.i64.wrap (x7 + 1))
          else none := (loopAt_eq _ _ _ _ _).trans (by kernel_rfl)
theorem L29_5_eq (x1 : List Int) (x2 : Int × List (List Int × Int × Bool)) (x4 : Int × List (List Int × Int × Bool)) (x6 : Int × List (List Int × Int × Bool)) (x7 : Int) : L29_5 x1 x2 x4 x6 x7 =
  bif decide (x7 < (↑(List.length x2.snd) : Int)) then
  (getI x2.snd x7).bind fun (y : List Int × Int × Bool) => L29_9 x1 x2 x4 x6 x7 y.snd.fst 0
else some ((x6, true, ()), ()) := (loopAt_eq _ _ _ _ _).trans (by kernel_rfl)
noncomputable def S29 (a0 : Int × List (List Int × Int × Bool)) (a1 : List Int) : Option (((Int × List (List Int × Int × Bool)) × Bool × PUnit) × PUnit) := F29.sem (a0, a1, ())
theorem S29_eq (a0 : Int × List (List Int × Int × Bool)) (a1 : List Int) : S29 a0 a1 =
  (S73 a0).bind fun (y : (Bool × PUnit) × PUnit) =>
  bif !y.fst.fst then some (((ty3.zero, (Ty.slice 115 ty115).zero), false, ()), ())
  else
    bif (↑a1.length : Int) != a0.fst then some (((ty3.zero, (Ty.slice 115 ty115).zero), false, ()), ())
    else L29_5 a1 a0 ty49.zero (a0.fst, (Ty.slice 115 ty115).zero) 0 := by kernel_rfl
noncomputable def E105 : Env := mkEnv C tab29 [0, 1] 9 (fun (x : Nat) => none)
  { hx := fun (x x_1 : Nat) => none, bx := fun (s : Nat) => Nat.testBit 0 s, kids := fun (x : Nat) => [] }
  [(ty3, Mode.ro)]
noncomputable def K105 := endK C [(ty3, Mode.ro)] [(ty4, 0)] [RV.tmp 2]
noncomputable def S105 (a0 : Int) : Option ((Bool × PUnit) × PUnit) := F105.sem (a0, ())
theorem S105_eq (a0 : Int) : S105 a0 =
  bif decide (a0 ≥ -400000000) then some ((decide (a0 ≤ 400000000), ()), ()) else some ((false, ()), ()) := by kernel_rfl
noncomputable def E71 : Env := mkEnv C tab105 [0, 1] 8 (fun (x : Nat) => none)
  { hx := fun (x x_1 : Nat) => none, bx := fun (s : Nat) => Nat.testBit 0 s, kids := fun (x : Nat) => [] }
  [(ty3, Mode.ro)]
noncomputable def K71 := endK C [(ty3, Mode.ro)] [(ty3, 0)] [RV.tmp 2]
noncomputable def S71 (a0 : Int) : Option ((Int × PUnit) × PUnit) := F71.sem (a0, ())
theorem S71_eq (a0 : Int) : S71 a0 =
  bif decide (a0 < 0) then some ((IntKind.i64.wrap (0 - a0), ()), ()) else some ((a0, ()), ()) := by kernel_rfl
noncomputable def E114 : Env := mkEnv C tab71 [0, 1, 2, 3] 16 (fun (k : Nat) => bif k == 1000002 then some 3 else none)
  { hx := fun (x x_1 : Nat) => none, bx := fun (s : Nat) => Nat.testBit 0 s, kids := fun (x : Nat) => [] }
  [(ty3, Mode.ro), (ty3, Mode.ro)]
noncomputable def K114 := endK C [(ty3, Mode.ro), (ty3, Mode.ro)] [(ty3, 0)] [RV.tmp 4]
noncomputable def L114_2 (x0 : Int) (x1 : Int) : Option ((Int × PUnit) × PUnit) := loopAt E114 [1, 1, 0, 0] (Try.f114.body.getD .skip) K114 [V.d none 0 ty3 x0, V.d none 0 ty3 x1, V.dead, V.dead, V.dead, V.dead, V.dead, V.dead, V.dead, V.dead, V.dead, V.dead,
  V.dead, V.dead, V.dead, V.dead]
theorem L114_2_eq (x0 : Int) (x1 : Int) : L114_2 x0 x1 =
  bif x1 != 0 then bif x1 != 0 then L114_2 x1 (x0.tmod x1) else none else some ((x0, ()), ()) := (loopAt_eq _ _ _ _ _).trans (by kernel_rfl)
noncomputable def S114 (a0 : Int) (a1 : Int) : Option ((Int × PUnit) × PUnit) := F114.sem (a0, a1, ())
theorem S114_eq (a0 : Int) (a1 : Int) : S114 a0 a1 =
  (S71 a0).bind fun (y : (Int × PUnit) × PUnit) =>
  (S71 a1).bind fun (y_1 : (Int × PUnit) × PUnit) => L114_2 y.fst.fst y_1.fst.fst := by kernel_rfl
noncomputable def E115 : Env := mkEnv C tab114 [0, 1, 3, 4, 5, 6, 10] 17 (fun (k : Nat) => bif k == 1000003 then some 457 else none)
  { hx := fun (x x_1 : Nat) => none, bx := fun (s : Nat) => Nat.testBit 0 s, kids := fun (x : Nat) => [] }
  [(ty45, Mode.ro)]
noncomputable def K115 := endK C [(ty45, Mode.ro)] [(ty3, 0)] [RV.tmp 2]
noncomputable def L115_3 (x0 : List Int) (x3 : Int) (x6 : List Int) (x7 : Int) (x8 : Int) : Option ((Int × PUnit) × PUnit) := loopAt E115 [1, 1, 0, 1, 0] (Try.f115.body.getD .skip) K115 [V.d none 0 ty45 x0, V.dead, V.dead, V.d none 0 (Ty.int IntKind.i64) x3, V.dead, V.dead, V.d none 0 ty45 x6,
  V.d none 0 (Ty.int IntKind.i64) x7, V.d none 0 (Ty.int IntKind.i64) x8, V.dead, V.dead, V.dead, V.dead, V.dead,
  V.dead, V.dead, V.dead]
theorem L115_3_eq (x0 : List Int) (x3 : Int) (x6 : List Int) (x7 : Int) (x8 : Int) : L115_3 x0 x3 x6 x7 x8 =
  bif decide (x8 < x7) then
  (getI x6 x8).bind fun (y : Int) =>
    (S114 x3 y).bind fun (y : (Int × PUnit) × PUnit) => L115_3 x0 y.fst.fst x6 x7 (IntKind.i64.wrap (x8 + 1))
else some ((x3, ()), ()) := (loopAt_eq _ _ _ _ _).trans (by kernel_rfl)
noncomputable def S115 (a0 : List Int) : Option ((Int × PUnit) × PUnit) := F115.sem (a0, ())
theorem S115_eq (a0 : List Int) : S115 a0 =
  L115_3 a0 0 a0 (↑a0.length : Int) 0 := by kernel_rfl
noncomputable def E113 : Env := mkEnv C tab115 [0, 1, 3, 4, 5, 10, 15, 16, 20, 26, 29] 33
  (fun (k : Nat) => bif k == 1 then some 6 else bif k == 3 then some 6 else bif k == 1000004 then some 491522 else none)
  { hx := fun (x x_1 : Nat) => none, bx := fun (s : Nat) => Nat.testBit 2 s,
    kids := fun (r : Nat) => bif r == 1 then [6, 16, 20, 27] else [] }
  [(ty115, Mode.ro)]
noncomputable def K113 := endK C [(ty115, Mode.ro)] [(ty4, 0)] [RV.tmp 2]
noncomputable def L113_4 (x1 : List Int × Int × Bool) (x16 : List Int) (x17 : Int) (x18 : Int) : Option ((Bool × PUnit) × PUnit) := loopAt E113 [1, 1, 0, 1, 0] (Try.f113.body.getD .skip) K113 [V.dead, V.box none 0 ty115 x1, V.dead, V.dead, V.dead, V.dead, V.dead, V.dead, V.dead, V.dead, V.dead, V.dead, V.dead,
  V.dead, V.dead, V.ptr 1 [St.fld 0 0] ty45, V.d none 0 ty45 x16, V.d none 0 (Ty.int IntKind.i64) x17,
  V.d none 0 (Ty.int IntKind.i64) x18, V.dead, V.dead, V.dead, V.dead, V.dead, V.dead, V.dead, V.dead, V.dead, V.dead,
  V.dead, V.dead, V.dead, V.dead]
theorem L113_4_eq (x1 : List Int × Int × Bool) (x16 : List Int) (x17 : Int) (x18 : Int) : L113_4 x1 x16 x17 x18 =
  bif decide (x18 < x17) then
  (getI x16 x18).bind fun (y : Int) =>
    (S105 y).bind fun (y : (Bool × PUnit) × PUnit) =>
      bif !y.fst.fst then some ((false, ()), ()) else L113_4 x1 x16 x17 (IntKind.i64.wrap (x18 + 1))
else
  (S115 x1.fst).bind fun (y : (Int × PUnit) × PUnit) =>
    (S114 y.fst.fst x1.snd.fst).bind fun (y : (Int × PUnit) × PUnit) => some ((decide (y.fst.fst ≤ 1), ()), ()) := (loopAt_eq _ _ _ _ _).trans (by kernel_rfl)
noncomputable def S113 (a0 : List Int × Int × Bool) : Option ((Bool × PUnit) × PUnit) := F113.sem (a0, ())
theorem S113_eq (a0 : List Int × Int × Bool) : S113 a0 =
  bif decide ((↑(List.length a0.fst) : Int) > 4) then some ((false, ()), ())
else
  (S105 a0.snd.fst).bind fun (y : (Bool × PUnit) × PUnit) =>
    bif !y.fst.fst then some ((false, ()), ()) else L113_4 a0 a0.fst (↑(List.length a0.fst) : Int) 0 := by kernel_rfl
noncomputable def E76 : Env := mkEnv C tab113 [0, 1, 3, 4, 5, 9, 14, 19, 20, 24, 30, 33] 38
  (fun (k : Nat) =>
    bif k == 1 then some 6
    else
      bif k == 3 then some 6
      else
        bif k == 5 then some 7864326
        else bif k == 6 then some 7864342 else bif k == 1000004 then some 7864322 else none)
  { hx := fun (x x_1 : Nat) => none, bx := fun (s : Nat) => Nat.testBit 18 s,
    kids := fun (r : Nat) => bif r == 1 then [15, 20, 24, 25] else bif r == 4 then [26, 31] else [] }
  [(ty49, Mode.ro)]
noncomputable def K76 := endK C [(ty49, Mode.ro)] [(ty4, 0)] [RV.tmp 2]
noncomputable def L76_4 (x1 : Int × List (List Int × Int × Bool)) (x20 : List (List Int × Int × Bool)) (x21 : Int) (x22 : Int) : Option ((Bool × PUnit) × PUnit) := loopAt E76 [1, 1, 0, 1, 0] (Try.f76.body.getD .skip) K76 [V.dead, V.box none 0 ty49 x1, V.dead, V.dead, V.dead, V.dead, V.dead, V.dead, V.dead, V.dead, V.dead, V.dead, V.dead,
  V.dead, V.dead, V.dead, V.dead, V.dead, V.dead, V.ptr 1 [St.fld 1 (ty3.sz + 0)] ty47,
  V.d none 0 (Ty.slice 115 ty115) x20, V.d none 0 (Ty.int IntKind.i64) x21, V.d none 0 (Ty.int IntKind.i64) x22, V.dead,
  V.dead, V.dead, V.dead, V.dead, V.dead, V.dead, V.dead, V.dead, V.dead, V.dead, V.dead, V.dead, V.dead, V.dead]
theorem L76_4_eq (x1 : Int × List (List Int × Int × Bool)) (x20 : List (List Int × Int × Bool)) (x21 : Int) (x22 : Int) : L76_4 x1 x20 x21 x22 =
  bif decide (x22 < x21) then
  (getI x20 x22).bind fun (y : List Int × Int × Bool) =>
    (S113 y).bind fun (y_1 : (Bool × PUnit) × PUnit) =>
      bif !y_1.fst.fst then some ((false, ()), ())
      else
        bif (↑(List.length y.fst) : Int) != x1.fst then some ((false, ()), ())
        else L76_4 x1 x20 x21 (IntKind.i64.wrap (x22 + 1))
else some ((true, ()), ()) := (loopAt_eq _ _ _ _ _).trans (by kernel_rfl)
noncomputable def S76 (a0 : Int × List (List Int × Int × Bool)) : Option ((Bool × PUnit) × PUnit) := F76.sem (a0, ())
theorem S76_eq (a0 : Int × List (List Int × Int × Bool)) : S76 a0 =
  bif decide (a0.fst < 0) then some ((false, ()), ())
else
  bif decide (a0.fst > 4) then some ((false, ()), ())
  else
    bif decide ((↑(List.length a0.snd) : Int) > 16) then some ((false, ()), ())
    else L76_4 a0 a0.snd (↑(List.length a0.snd) : Int) 0 := by kernel_rfl
noncomputable def E77 : Env := mkEnv C tab76 [0, 1] 9 (fun (x : Nat) => none)
  { hx := fun (x x_1 : Nat) => none, bx := fun (s : Nat) => Nat.testBit 0 s, kids := fun (x : Nat) => [] }
  [(ty3, Mode.ro)]
noncomputable def K77 := endK C [(ty3, Mode.ro)] [(ty4, 0)] [RV.tmp 2]
noncomputable def S77 (a0 : Int) : Option ((Bool × PUnit) × PUnit) := F77.sem (a0, ())
theorem S77_eq (a0 : Int) : S77 a0 =
  bif decide (a0 ≥ -1000) then some ((decide (a0 ≤ 1000), ()), ()) else some ((false, ()), ()) := by kernel_rfl
noncomputable def E78 : Env := mkEnv C tab77 [0, 1, 2, 3, 4, 5, 6, 8, 9, 10, 11, 26, 31, 33, 34] 46
  (fun (k : Nat) =>
    bif k == 4 then some 455
    else
      bif k == 5 then some 961
      else
        bif k == 8 then some 469766081
        else
          bif k == 11 then some 192 else bif k == 12 then some 704 else bif k == 1000006 then some 469762881 else none)
  { hx := fun (x x_1 : Nat) => none, bx := fun (s : Nat) => Nat.testBit 576 s,
    kids := fun (r : Nat) => bif r == 6 then [] else bif r == 9 then [34, 39, 41, 45] else [] }
  [(ty45, Mode.ro), (ty3, Mode.ro), (ty4, Mode.ro)]
noncomputable def K78 := endK C [(ty45, Mode.ro), (ty3, Mode.ro), (ty4, Mode.ro)] [(ty115, 1), (ty4, 0)] [RV.cell 6 115, RV.tmp 7]
noncomputable def L78_6 (x0 : List Int) (x6 : List Int × Int × Bool) (x8 : Int) (x9 : List Int × Int × Bool) (x26 : List Int) (x27 : Int) (x28 : Int) : Option (((List Int × Int × Bool) × Bool × PUnit) × PUnit) := loopAt E78 [1, 1, 1, 1, 0, 1, 0] (Try.f78.body.getD .skip) K78 [V.d none 0 ty45 x0, V.dead, V.dead, V.dead, V.dead, V.dead, V.box none ty115.depth ty115 x6, V.dead,
  V.d none 0 (Ty.int IntKind.i64) x8, V.box none ty115.depth ty115 x9, V.dead, V.dead, V.dead, V.dead, V.dead, V.dead,
  V.dead, V.dead, V.dead, V.dead, V.dead, V.dead, V.dead, V.dead, V.dead, V.dead, V.d none 0 ty45 x26,
  V.d none 0 (Ty.int IntKind.i64) x27, V.d none 0 (Ty.int IntKind.i64) x28, V.dead, V.dead, V.dead, V.dead, V.dead,
  V.dead, V.dead, V.dead, V.dead, V.dead, V.dead, V.dead, V.dead, V.dead, V.dead, V.dead, V.dead]
theorem L78_6_eq (x0 : List Int) (x6 : List Int × Int × Bool) (x8 : Int) (x9 : List Int × Int × Bool) (x26 : List Int) (x27 : Int) (x28 : Int) : L78_6 x0 x6 x8 x9 x26 x27 x28 =
  bif decide (x28 < x27) then
  (getI x26 x28).bind fun (y : Int) =>
    bif x8 != 0 then
      (getI x9.fst x28).bind fun (y_1 : Int) =>
        (getI x9.fst x28).bind fun (y_2 : Int) =>
          (getI x9.fst x28).bind fun (y_3 : Int) =>
            L78_6 x0 x6 x8 (List.set x9.fst x28.toNat (IntKind.i64.wrap (y.tdiv x8)), x9.snd) x26 x27
              (IntKind.i64.wrap (x28 + 1))
    else none
else
  (S113 x9).bind fun (y : (Bool × PUnit) × PUnit) =>
    bif !y.fst.fst then some (((ty45.zero, ty3.zero, Ty.bool.zero), false, ()), ()) else some ((x9, true, ()), ()) := (loopAt_eq _ _ _ _ _).trans (by kernel_rfl)
noncomputable def S78 (a0 : List Int) (a1 : Int) (a2 : Bool) : Option (((List Int × Int × Bool) × Bool × PUnit) × PUnit) := F78.sem (a0, a1, a2, ())
theorem S78_eq (a0 : List Int) (a1 : Int) (a2 : Bool) : S78 a0 a1 a2 =
  (S115 a0).bind fun (y : (Int × PUnit) × PUnit) =>
  (S114 y.fst.fst a1).bind fun (y : (Int × PUnit) × PUnit) =>
    bif y.fst.fst == 0 then
      bif
          decide (0 ≤ (↑a0.length : Int)) && decide ((↑a0.length : Int) ≤ (↑a0.length : Int)) &&
              decide ((↑a0.length : Int) * (↑8 : Int) ≤ 140737488355328) &&
            decide ((↑a0.length : Int) ≤ 9223372036854775807) then
        L78_6 a0 ty115.zero 1 (List.replicate (↑a0.length : Int).toNat ty3.zero, IntKind.i64.wrap (a1.tdiv 1), a2) a0
          (↑a0.length : Int) 0
      else none
    else
      bif
          decide (0 ≤ (↑a0.length : Int)) && decide ((↑a0.length : Int) ≤ (↑a0.length : Int)) &&
              decide ((↑a0.length : Int) * (↑8 : Int) ≤ 140737488355328) &&
            decide ((↑a0.length : Int) ≤ 9223372036854775807) then
        bif y.fst.fst != 0 then
          L78_6 a0 ty115.zero y.fst.fst
            (List.replicate (↑a0.length : Int).toNat ty3.zero, IntKind.i64.wrap (a1.tdiv y.fst.fst), a2) a0
            (↑a0.length : Int) 0
        else none
      else none := by kernel_rfl
noncomputable def E32 : Env := mkEnv C tab78 [0, 1, 2, 3, 4, 6, 7, 8, 9, 10, 11, 12, 13, 20, 25, 29, 30, 34, 36, 38, 43, 50, 51, 53, 59, 60, 63, 71] 79
  (fun (k : Nat) =>
    bif k == 1 then some 54
    else
      bif k == 2 then some 48
      else
        bif k == 3 then some 54
        else
          bif k == 4 then some 118
          else
            bif k == 6 then some 8053063798
            else
              bif k == 8 then some 8053064566
              else
                bif k == 12 then some 48
                else
                  bif k == 15 then some 8053064566
                  else
                    bif k == 17 then some 48
                    else
                      bif k == 18 then some 8053067894
                      else
                        bif k == 20 then some 112
                        else
                          bif k == 1000005 then some 8053063766 else bif k == 1000009 then some 1932198413142 else none)
  { hx := fun (d i : Nat) => bif d == 59 then bif i == 0 then some 66 else bif i == 1 then some 67 else none else none,
    bx := fun (s : Nat) => Nat.testBit 4436 s,
    kids := fun (r : Nat) =>
      bif r == 2 then [14, 30, 34, 35]
      else
        bif r == 4 then []
        else bif r == 6 then [72, 78] else bif r == 8 then [51, 53, 61] else bif r == 12 then [73] else [] }
  [(ty49, Mode.ro), (ty45, Mode.ro)]
noncomputable def K32 := endK C [(ty49, Mode.ro), (ty45, Mode.ro)] [(ty49, 2), (ty4, 0)] [RV.cell 4 49, RV.tmp 5]
noncomputable def L32_9 (x1 : List Int) (x2 : Int × List (List Int × Int × Bool)) (x4 : Int × List (List Int × Int × Bool)) (x6 : Int × List (List Int × Int × Bool)) (x8 : List Int × Int × Bool) (x9 : Int) (x30 : List (List Int × Int × Bool)) (x31 : Int) (x32 : Int) (x38 : List Int) (x39 : Int) (x40 : Int) : Option (((Int × List (List Int × Int × Bool)) × Bool × PUnit) × PUnit) := loopAt E32 [1, 1, 1, 0, 1, 0, 0, 1, 1, 0, 0, 1, 1, 0, 1, 0] (Try.f32.body.getD .skip) K32 [V.dead, V.d none 0 ty45 x1, V.box none 0 ty49 x2, V.dead, V.box none ty49.depth ty49 x4, V.dead,
  V.box none ty49.depth ty49 x6, V.dead, V.box none 0 ty115 x8, V.d none 0 ty3 x9, V.dead, V.dead, V.dead, V.dead,
  V.dead, V.dead, V.dead, V.dead, V.dead, V.dead, V.dead, V.dead, V.dead, V.dead, V.dead, V.dead, V.dead, V.dead,
  V.dead, V.ptr 2 [St.fld 1 (ty3.sz + 0)] ty47, V.d none 0 (Ty.slice 115 ty115) x30,
  V.d none 0 (Ty.int IntKind.i64) x31, V.d none 0 (Ty.int IntKind.i64) x32, V.dead, V.dead, V.dead, V.dead, V.dead,
  V.d none 0 ty45 x38, V.d none 0 (Ty.int IntKind.i64) x39, V.d none 0 (Ty.int IntKind.i64) x40, V.dead, V.dead, V.dead,
  V.dead, V.dead, V.dead, V.dead, V.dead, V.dead, V.dead, V.dead, V.dead, V.dead, V.dead, V.dead, V.dead, V.dead,
  V.dead, V.dead, V.dead, V.dead, V.dead, V.dead, V.dead, V.dead, V.dead, V.dead, V.dead, V.dead, V.dead, V.dead,
  V.dead, V.dead, V.dead, V.dead, V.dead, V.dead, V.dead]
noncomputable def L32_5 (x1 : List Int) (x2 : Int × List (List Int × Int × Bool)) (x4 : Int × List (List Int × Int × Bool)) (x6 : Int × List (List Int × Int × Bool)) (x30 : List (List Int × Int × Bool)) (x31 : Int) (x32 : Int) : Option (((Int × List (List Int × Int × Bool)) × Bool × PUnit) × PUnit) := loopAt E32 [1, 1, 1, 0, 1, 0] (Try.f32.body.getD .skip) K32 [V.dead, V.d none 0 ty45 x1, V.box none 0 ty49 x2, V.dead, V.box none ty49.depth ty49 x4, V.dead,
  V.box none ty49.depth ty49 x6, V.dead, V.dead, V.dead, V.dead, V.dead, V.dead, V.dead, V.dead, V.dead, V.dead, V.dead,
  V.dead, V.dead, V.dead, V.dead, V.dead, V.dead, V.dead, V.dead, V.dead, V.dead, V.dead,
  V.ptr 2 [St.fld 1 (ty3.sz + 0)] ty47, V.d none 0 (Ty.slice 115 ty115) x30, V.d none 0 (Ty.int IntKind.i64) x31,
  V.d none 0 (Ty.int IntKind.i64) x32, V.dead, V.dead, V.dead, V.dead, V.dead, V.dead, V.dead, V.dead, V.dead, V.dead,
  V.dead, V.dead, V.dead, V.dead, V.dead, V.dead, V.dead, V.dead, V.dead, V.dead, V.dead, V.dead, V.dead, V.dead,
  V.dead, V.dead, V.dead, V.dead, V.dead, V.dead, V.dead, V.dead, V.dead, V.dead, V.dead, V.dead, V.dead, V.dead,
  V.dead, V.dead, V.dead, V.dead, V.dead, V.dead, V.dead, V.dead]
theorem L32_9_eq (x1 : List Int) (x2 : Int × List (List Int × Int × Bool)) (x4 : Int × List (List Int × Int × Bool)) (x6 : Int × List (List Int × Int × Bool)) (x8 : List Int × Int × Bool) (x9 : Int) (x30 : List (List Int × Int × Bool)) (x31 : Int) (x32 : Int) (x38 : List Int) (x39 : Int) (x40 : Int) : L32_9 x1 x2 x4 x6 x8 x9 x30 x31 x32 x38 x39 x40 =
  bif decide (x40 < x39) then
  (getI x38 x40).bind fun (y : Int) =>
    (S77 y).bind fun (y_1 : (Bool × PUnit) × PUnit) =>
      bif !y_1.fst.fst then some (((ty3.zero, (Ty.slice 115 ty115).zero), false, ()), ())
      else
        (getI x8.fst x40).bind fun (y_2 : Int) =>
          L32_9 x1 x2 x4 x6 x8 (IntKind.i64.wrap (x9 - IntKind.i64.wrap (y_2 * y))) x30 x31 x32 x38 x39
            (IntKind.i64.wrap (x40 + 1))
else
  (S78 x8.fst x9 x8.snd.snd).bind fun (y : ((List Int × Int × Bool) × Bool × PUnit) × PUnit) =>
    bif !y.fst.snd.fst then some (((ty3.zero, (Ty.slice 115 ty115).zero), false, ()), ())
    else
      bif decide ((List.length x6.snd + [y.fst.fst].length) * 40 ≤ 140737488355328) then
        L32_5 x1 x2 x4 (x6.fst, x6.snd ++ [y.fst.fst]) x30 x31 (IntKind.i64.wrap (x32 + 1))
      else none := (loopAt_eq _ _ _ _ _).trans (by kernel_rfl)
theorem L32_5_eq (x1 : List Int) (x2 : Int × List (List Int × Int × Bool)) (x4 : Int × List (List Int × Int × Bool)) (x6 : Int × List (List Int × Int × Bool)) (x30 : List (List Int × Int × Bool)) (x31 : Int) (x32 : Int) : L32_5 x1 x2 x4 x6 x30 x31 x32 =
  bif decide (x32 < x31) then
  (getI x30 x32).bind fun (y : List Int × Int × Bool) =>
    L32_9 x1 x2 x4 x6 y y.snd.fst x30 x31 x32 x1 (↑x1.length : Int) 0
else some ((x6, true, ()), ()) := (loopAt_eq _ _ _ _ _).trans (by kernel_rfl)
noncomputable def S32 (a0 : Int × List (List Int × Int × Bool)) (a1 : List Int) : Option (((Int × List (List Int × Int × Bool)) × Bool × PUnit) × PUnit) := F32.sem (a0, a1, ())
theorem S32_eq (a0 : Int × List (List Int × Int × Bool)) (a1 : List Int) : S32 a0 a1 =
  (S76 a0).bind fun (y : (Bool × PUnit) × PUnit) =>
  bif !y.fst.fst then some (((ty3.zero, (Ty.slice 115 ty115).zero), false, ()), ())
  else
    bif (↑a1.length : Int) != a0.fst then some (((ty3.zero, (Ty.slice 115 ty115).zero), false, ()), ())
    else L32_5 a1 a0 ty49.zero (a0.fst, []) a0.snd (↑(List.length a0.snd) : Int) 0 := by kernel_rfl
noncomputable def E34 : Env := mkEnv C tab32 [0, 1, 2, 3, 5, 17, 19, 21, 23] 26 (fun (k : Nat) => bif k == 1000004 then some 35 else none)
  { hx := fun (x x_1 : Nat) => none, bx := fun (s : Nat) => Nat.testBit 0 s, kids := fun (x : Nat) => [] }
  [(ty45, Mode.ro), (ty45, Mode.ro)]
noncomputable def K34 := endK C [(ty45, Mode.ro), (ty45, Mode.ro)] [(ty4, 0)] [RV.tmp 4]
noncomputable def L34_4 (x0 : List Int) (x1 : List Int) (x5 : Int) : Option ((Bool × PUnit) × PUnit) := loopAt E34 [1, 1, 0, 1, 0] (Try.f34.body.getD .skip) K34 [V.d none 0 ty45 x0, V.d none 0 ty45 x1, V.dead, V.dead, V.dead, V.d none 0 (Ty.int IntKind.i64) x5, V.dead, V.dead,
  V.dead, V.dead, V.dead, V.dead, V.dead, V.dead, V.dead, V.dead, V.dead, V.dead, V.dead, V.dead, V.dead, V.dead,
  V.dead, V.dead, V.dead, V.dead]
theorem L34_4_eq (x0 : List Int) (x1 : List Int) (x5 : Int) : L34_4 x0 x1 x5 =
  bif decide (x5 < (↑x0.length : Int)) then
  (getI x0 x5).bind fun (y : Int) =>
    (getI x1 x5).bind fun (y_1 : Int) =>
      bif y != y_1 then some ((false, ()), ()) else L34_4 x0 x1 (IntKind.i64.wrap (x5 + 1))
else some ((true, ()), ()) := (loopAt_eq _ _ _ _ _).trans (by kernel_rfl)
noncomputable def S34 (a0 : List Int) (a1 : List Int) : Option ((Bool × PUnit) × PUnit) := F34.sem (a0, a1, ())
theorem S34_eq (a0 : List Int) (a1 : List Int) : S34 a0 a1 =
  bif (↑a0.length : Int) != (↑a1.length : Int) then some ((false, ()), ()) else L34_4 a0 a1 0 := by kernel_rfl
noncomputable def E116 : Env := mkEnv C tab34 [0, 1, 2, 3, 5, 7, 11, 13, 16, 18] 21 (fun (x : Nat) => none)
  { hx := fun (x x_1 : Nat) => none, bx := fun (s : Nat) => Nat.testBit 12 s,
    kids := fun (r : Nat) => bif r == 2 then [6] else bif r == 3 then [8] else [] }
  [(ty115, Mode.ro), (ty115, Mode.ro)]
noncomputable def K116 := endK C [(ty115, Mode.ro), (ty115, Mode.ro)] [(ty4, 0)] [RV.tmp 4]
noncomputable def S116 (a0 : List Int × Int × Bool) (a1 : List Int × Int × Bool) : Option ((Bool × PUnit) × PUnit) := F116.sem (a0, a1, ())
theorem S116_eq (a0 : List Int × Int × Bool) (a1 : List Int × Int × Bool) : S116 a0 a1 =
  (S34 a0.fst a1.fst).bind fun (y : (Bool × PUnit) × PUnit) =>
  bif !y.fst.fst then some ((false, ()), ())
  else
    bif a0.snd.fst != a1.snd.fst then some ((false, ()), ())
    else bif !a0.snd.snd == a1.snd.snd then some ((false, ()), ()) else some ((true, ()), ()) := by kernel_rfl
noncomputable def E79 : Env := mkEnv C tab116 [0, 1, 2, 3, 5, 17, 19, 21, 23] 27 (fun (k : Nat) => bif k == 1000004 then some 35 else none)
  { hx := fun (x x_1 : Nat) => none, bx := fun (s : Nat) => Nat.testBit 0 s, kids := fun (x : Nat) => [] }
  [(ty47, Mode.ro), (ty47, Mode.ro)]
noncomputable def K79 := endK C [(ty47, Mode.ro), (ty47, Mode.ro)] [(ty4, 0)] [RV.tmp 4]
noncomputable def L79_4 (x0 : List (List Int × Int × Bool)) (x1 : List (List Int × Int × Bool)) (x5 : Int) : Option ((Bool × PUnit) × PUnit) := loopAt E79 [1, 1, 0, 1, 0] (Try.f79.body.getD .skip) K79 [V.d none 0 ty47 x0, V.d none 0 ty47 x1, V.dead, V.dead, V.dead, V.d none 0 (Ty.int IntKind.i64) x5, V.dead, V.dead,
  V.dead, V.dead, V.dead, V.dead, V.dead, V.dead, V.dead, V.dead, V.dead, V.dead, V.dead, V.dead, V.dead, V.dead,
  V.dead, V.dead, V.dead, V.dead, V.dead]
theorem L79_4_eq (x0 : List (List Int × Int × Bool)) (x1 : List (List Int × Int × Bool)) (x5 : Int) : L79_4 x0 x1 x5 =
  bif decide (x5 < (↑x0.length : Int)) then
  (getI x0 x5).bind fun (y : List Int × Int × Bool) =>
    (getI x1 x5).bind fun (y_1 : List Int × Int × Bool) =>
      (S116 y y_1).bind fun (y : (Bool × PUnit) × PUnit) =>
        bif !y.fst.fst then some ((false, ()), ()) else L79_4 x0 x1 (IntKind.i64.wrap (x5 + 1))
else some ((true, ()), ()) := (loopAt_eq _ _ _ _ _).trans (by kernel_rfl)
noncomputable def S79 (a0 : List (List Int × Int × Bool)) (a1 : List (List Int × Int × Bool)) : Option ((Bool × PUnit) × PUnit) := F79.sem (a0, a1, ())
theorem S79_eq (a0 : List (List Int × Int × Bool)) (a1 : List (List Int × Int × Bool)) : S79 a0 a1 =
  bif (↑a0.length : Int) != (↑a1.length : Int) then some ((false, ()), ()) else L79_4 a0 a1 0 := by kernel_rfl
noncomputable def E33 : Env := mkEnv C tab79 [0, 1, 2, 3, 5, 7, 10, 12] 16 (fun (x : Nat) => none)
  { hx := fun (x x_1 : Nat) => none, bx := fun (s : Nat) => Nat.testBit 12 s,
    kids := fun (r : Nat) => bif r == 2 then [11] else bif r == 3 then [13] else [] }
  [(ty49, Mode.ro), (ty49, Mode.ro)]
noncomputable def K33 := endK C [(ty49, Mode.ro), (ty49, Mode.ro)] [(ty4, 0)] [RV.tmp 4]
noncomputable def S33 (a0 : Int × List (List Int × Int × Bool)) (a1 : Int × List (List Int × Int × Bool)) : Option ((Bool × PUnit) × PUnit) := F33.sem (a0, a1, ())
theorem S33_eq (a0 : Int × List (List Int × Int × Bool)) (a1 : Int × List (List Int × Int × Bool)) : S33 a0 a1 =
  bif a0.fst != a1.fst then some ((false, ()), ())
else
  (S79 a0.snd a1.snd).bind fun (y : (Bool × PUnit) × PUnit) =>
    bif !y.fst.fst then some ((false, ()), ()) else some ((true, ()), ()) := by kernel_rfl
noncomputable def E36 : Env := mkEnv C tab33 [0, 1, 2, 3, 5, 12] 19 (fun (k : Nat) => bif k == 1000002 then some 35 else none)
  { hx := fun (x x_1 : Nat) => none, bx := fun (s : Nat) => Nat.testBit 0 s, kids := fun (x : Nat) => [] }
  [(ty45, Mode.mut 1), (ty3, Mode.ro)]
noncomputable def K36 := endK C [(ty45, Mode.mut 1), (ty3, Mode.ro)] [(ty3, 0)] [RV.tmp 4]
noncomputable def L36_2 (x0 : List Int) (x1 : Int) (x5 : Int) : Option ((Int × PUnit) × List Int × PUnit) := loopAt E36 [1, 0, 1, 0] (Try.f36.body.getD .skip) K36 [V.d none 1 ty45 x0, V.d none 0 ty3 x1, V.dead, V.dead, V.dead, V.d none 0 (Ty.int IntKind.i64) x5, V.dead, V.dead,
  V.dead, V.dead, V.dead, V.dead, V.dead, V.dead, V.dead, V.dead, V.dead, V.dead, V.dead]
theorem L36_2_eq (x0 : List Int) (x1 : Int) (x5 : Int) : L36_2 x0 x1 x5 =
  bif decide (x5 < (↑x0.length : Int)) then
  (getI x0 x5).bind fun (y : Int) =>
    (getI x0 x5).bind fun (y : Int) =>
      (getI x0 x5).bind fun (y : Int) =>
        L36_2 (x0.set x5.toNat x1) (IntKind.i64.wrap (x1 + 1)) (IntKind.i64.wrap (x5 + 1))
else some ((x1, ()), x0, ()) := (loopAt_eq _ _ _ _ _).trans (by kernel_rfl)
noncomputable def S36 (a0 : List Int) (a1 : Int) : Option ((Int × PUnit) × List Int × PUnit) := F36.sem (a0, a1, ())
theorem S36_eq (a0 : List Int) (a1 : Int) : S36 a0 a1 =
  L36_2 a0 a1 0 := by kernel_rfl
noncomputable def E80 : Env := mkEnv C tab36 [0, 1, 2, 3, 5, 12, 14, 15, 19, 22, 26, 31] 36 (fun (k : Nat) => bif k == 1000002 then some 35 else none)
  { hx := fun (x x_1 : Nat) => none, bx := fun (s : Nat) => Nat.testBit 0 s, kids := fun (x : Nat) => [] }
  [(ty47, Mode.mut 2), (ty3, Mode.ro)]
noncomputable def K80 := endK C [(ty47, Mode.mut 2), (ty3, Mode.ro)] [(ty3, 0)] [RV.tmp 4]
noncomputable def L80_2 (x0 : List (List Int × Int × Bool)) (x1 : Int) (x5 : Int) : Option ((Int × PUnit) × List (List Int × Int × Bool) × PUnit) := loopAt E80 [1, 0, 1, 0] (Try.f80.body.getD .skip) K80 [V.d none 2 ty47 x0, V.d none 0 ty3 x1, V.dead, V.dead, V.dead, V.d none 0 (Ty.int IntKind.i64) x5, V.dead, V.dead,
  V.dead, V.dead, V.dead, V.dead, V.dead, V.dead, V.dead, V.dead, V.dead, V.dead, V.dead, V.dead, V.dead, V.dead,
  V.dead, V.dead, V.dead, V.dead, V.dead, V.dead, V.dead, V.dead, V.dead, V.dead, V.dead, V.dead, V.dead, V.dead]
theorem L80_2_eq (x0 : List (List Int × Int × Bool)) (x1 : Int) (x5 : Int) : L80_2 x0 x1 x5 =
  bif decide (x5 < (↑x0.length : Int)) then
  (getI x0 x5).bind fun (y : List Int × Int × Bool) =>
    (getI x0 x5).bind fun (y : List Int × Int × Bool) =>
      (getI x0 x5).bind fun (y : List Int × Int × Bool) =>
        (S36 y.fst x1).bind fun (y : (Int × PUnit) × List Int × PUnit) =>
          (getI x0 x5).bind fun (y_1 : List Int × Int × Bool) =>
            (getI (x0.set x5.toNat (y.snd.fst, y_1.snd)) x5).bind fun (y_2 : List Int × Int × Bool) =>
              (getI (x0.set x5.toNat (y.snd.fst, y_1.snd)) x5).bind fun (y_3 : List Int × Int × Bool) =>
                (getI (x0.set x5.toNat (y.snd.fst, y_1.snd)) x5).bind fun (y_4 : List Int × Int × Bool) =>
                  (getI ((x0.set x5.toNat (y.snd.fst, y_1.snd)).set x5.toNat (y_4.fst, y.fst.fst, y_4.snd.snd)) x5).bind
                    fun (y_5 : List Int × Int × Bool) =>
                    (getI ((x0.set x5.toNat (y.snd.fst, y_1.snd)).set x5.toNat (y_4.fst, y.fst.fst, y_4.snd.snd))
                          x5).bind
                      fun (y_6 : List Int × Int × Bool) =>
                      (getI ((x0.set x5.toNat (y.snd.fst, y_1.snd)).set x5.toNat (y_4.fst, y.fst.fst, y_4.snd.snd))
                            x5).bind
                        fun (y_7 : List Int × Int × Bool) =>
                        L80_2
                          (((x0.set x5.toNat (y.snd.fst, y_1.snd)).set x5.toNat (y_4.fst, y.fst.fst, y_4.snd.snd)).set
                            x5.toNat (y_7.fst, y_7.snd.fst, (IntKind.i64.wrap (y.fst.fst + 1)).tmod 3 == 0))
                          (IntKind.i64.wrap (IntKind.i64.wrap (y.fst.fst + 1) + 1)) (IntKind.i64.wrap (x5 + 1))
else some ((x1, ()), x0, ()) := (loopAt_eq _ _ _ _ _).trans (by kernel_rfl)
noncomputable def S80 (a0 : List (List Int × Int × Bool)) (a1 : Int) : Option ((Int × PUnit) × List (List Int × Int × Bool) × PUnit) := F80.sem (a0, a1, ())
theorem S80_eq (a0 : List (List Int × Int × Bool)) (a1 : Int) : S80 a0 a1 =
  L80_2 a0 a1 0 := by kernel_rfl
noncomputable def E35 : Env := mkEnv C tab80 [0, 1, 2, 3, 5] 10 (fun (x : Nat) => none)
  { hx := fun (x x_1 : Nat) => none, bx := fun (s : Nat) => Nat.testBit 4 s,
    kids := fun (r : Nat) => bif r == 2 then [6] else [] }
  [(ty49, Mode.mut 2), (ty3, Mode.ro)]
noncomputable def K35 := endK C [(ty49, Mode.mut 2), (ty3, Mode.ro)] [(ty3, 0)] [RV.tmp 4]
noncomputable def S35 (a0 : Int × List (List Int × Int × Bool)) (a1 : Int) : Option ((Int × PUnit) × (Int × List (List Int × Int × Bool)) × PUnit) := F35.sem (a0, a1, ())
theorem S35_eq (a0 : Int × List (List Int × Int × Bool)) (a1 : Int) : S35 a0 a1 =
  (S80 a0.snd a1).bind fun (y : (Int × PUnit) × List (List Int × Int × Bool) × PUnit) =>
  some ((y.fst.fst, ()), (a0.fst, y.snd.fst), ()) := by kernel_rfl
noncomputable def E117 : Env := mkEnv C tab35 [0, 1, 2, 3, 5, 12, 14] 21 (fun (k : Nat) => bif k == 1000002 then some 35 else none)
  { hx := fun (x x_1 : Nat) => none, bx := fun (s : Nat) => Nat.testBit 0 s, kids := fun (x : Nat) => [] }
  [(ty45, Mode.ro), (ty3, Mode.ro)]
noncomputable def K117 := endK C [(ty45, Mode.ro), (ty3, Mode.ro)] [(ty3, 0)] [RV.tmp 4]
noncomputable def L117_2 (x0 : List Int) (x1 : Int) (x5 : Int) : Option ((Int × PUnit) × PUnit) := loopAt E117 [1, 0, 1, 0] (Try.f117.body.getD .skip) K117 [V.d none 0 ty45 x0, V.d none 0 ty3 x1, V.dead, V.dead, V.dead, V.d none 0 (Ty.int IntKind.i64) x5, V.dead, V.dead,
  V.dead, V.dead, V.dead, V.dead, V.dead, V.dead, V.dead, V.dead, V.dead, V.dead, V.dead, V.dead, V.dead]
theorem L117_2_eq (x0 : List Int) (x1 : Int) (x5 : Int) : L117_2 x0 x1 x5 =
  bif decide (x5 < (↑x0.length : Int)) then
  (getI x0 x5).bind fun (y : Int) =>
    bif y != x1 then some ((-1, ()), ()) else L117_2 x0 (IntKind.i64.wrap (x1 + 1)) (IntKind.i64.wrap (x5 + 1))
else some ((x1, ()), ()) := (loopAt_eq _ _ _ _ _).trans (by kernel_rfl)
noncomputable def S117 (a0 : List Int) (a1 : Int) : Option ((Int × PUnit) × PUnit) := F117.sem (a0, a1, ())
theorem S117_eq (a0 : List Int) (a1 : Int) : S117 a0 a1 =
  L117_2 a0 a1 0 := by kernel_rfl
noncomputable def E81 : Env := mkEnv C tab117 [0, 1, 2, 3, 5, 12, 14, 15, 21, 23, 24, 30, 32, 33] 42
  (fun (k : Nat) => bif k == 1000002 then some 35 else none)
  { hx := fun (x x_1 : Nat) => none, bx := fun (s : Nat) => Nat.testBit 0 s, kids := fun (x : Nat) => [] }
  [(ty47, Mode.ro), (ty3, Mode.ro)]
noncomputable def K81 := endK C [(ty47, Mode.ro), (ty3, Mode.ro)] [(ty3, 0)] [RV.tmp 4]
noncomputable def L81_2 (x0 : List (List Int × Int × Bool)) (x1 : Int) (x5 : Int) : Option ((Int × PUnit) × PUnit) := loopAt E81 [1, 0, 1, 0] (Try.f81.body.getD .skip) K81 [V.d none 0 ty47 x0, V.d none 0 ty3 x1, V.dead, V.dead, V.dead, V.d none 0 (Ty.int IntKind.i64) x5, V.dead, V.dead,
  V.dead, V.dead, V.dead, V.dead, V.dead, V.dead, V.dead, V.dead, V.dead, V.dead, V.dead, V.dead, V.dead, V.dead,
  V.dead, V.dead, V.dead, V.dead, V.dead, V.dead, V.dead, V.dead, V.dead, V.dead, V.dead, V.dead, V.dead, V.dead,
  V.dead, V.dead, V.dead, V.dead, V.dead, V.dead]
theorem L81_2_eq (x0 : List (List Int × Int × Bool)) (x1 : Int) (x5 : Int) : L81_2 x0 x1 x5 =
  bif decide (x5 < (↑x0.length : Int)) then
  (getI x0 x5).bind fun (y : List Int × Int × Bool) =>
    (S117 y.fst x1).bind fun (y : (Int × PUnit) × PUnit) =>
      bif decide (y.fst.fst < 0) then some ((-1, ()), ())
      else
        (getI x0 x5).bind fun (y_1 : List Int × Int × Bool) =>
          bif y_1.snd.fst != y.fst.fst then some ((-1, ()), ())
          else
            (getI x0 x5).bind fun (y_2 : List Int × Int × Bool) =>
              bif !y_2.snd.snd == ((IntKind.i64.wrap (y.fst.fst + 1)).tmod 3 == 0) then some ((-1, ()), ())
              else L81_2 x0 (IntKind.i64.wrap (IntKind.i64.wrap (y.fst.fst + 1) + 1)) (IntKind.i64.wrap (x5 + 1))
else some ((x1, ()), ()) := (loopAt_eq _ _ _ _ _).trans (by kernel_rfl)
noncomputable def S81 (a0 : List (List Int × Int × Bool)) (a1 : Int) : Option ((Int × PUnit) × PUnit) := F81.sem (a0, a1, ())
theorem S81_eq (a0 : List (List Int × Int × Bool)) (a1 : Int) : S81 a0 a1 =
  L81_2 a0 a1 0 := by kernel_rfl
noncomputable def E37 : Env := mkEnv C tab81 [0, 1, 2, 3, 5] 12 (fun (x : Nat) => none)
  { hx := fun (x x_1 : Nat) => none, bx := fun (s : Nat) => Nat.testBit 4 s,
    kids := fun (r : Nat) => bif r == 2 then [6] else [] }
  [(ty49, Mode.ro), (ty3, Mode.ro)]
noncomputable def K37 := endK C [(ty49, Mode.ro), (ty3, Mode.ro)] [(ty3, 0)] [RV.tmp 4]
noncomputable def S37 (a0 : Int × List (List Int × Int × Bool)) (a1 : Int) : Option ((Int × PUnit) × PUnit) := F37.sem (a0, a1, ())
theorem S37_eq (a0 : Int × List (List Int × Int × Bool)) (a1 : Int) : S37 a0 a1 =
  (S81 a0.snd a1).bind fun (y : (Int × PUnit) × PUnit) =>
  bif decide (y.fst.fst < 0) then some ((-1, ()), ()) else some ((y.fst.fst, ()), ()) := by kernel_rfl
noncomputable def E7 : Env := mkEnv C tab37 [0, 1, 2, 3, 5, 6, 7, 8, 9, 10, 11, 12, 13, 14, 15, 16, 25, 37, 92] 117
  (fun (k : Nat) =>
    bif k == 1 then some 22
    else
      bif k == 7 then some 22
      else bif k == 8 then some 214 else bif k == 10 then some 982 else bif k == 30 then some 9430 else none)
  {
    hx := fun (d i : Nat) =>
      bif d == 25 then bif i == 0 then some 31 else bif i == 1 then some 32 else none
      else
        bif d == 37 then bif i == 0 then some 41 else bif i == 1 then some 42 else none
        else bif d == 92 then bif i == 0 then some 98 else bif i == 1 then some 99 else none else none,
    bx := fun (s : Nat) => Nat.testBit 34116 s,
    kids := fun (r : Nat) =>
      bif r == 2 then [20, 26, 33, 53, 93]
      else
        bif r == 6 then [44, 72, 101]
        else
          bif r == 8 then [38, 52, 62] else bif r == 10 then [43, 71, 81, 84, 109] else bif r == 15 then [100] else [] }
  [(ty44, Mode.ro), (ty45, Mode.ro)]
noncomputable def K7 := endK C [(ty44, Mode.ro), (ty45, Mode.ro)] [(ty4, 0)] [RV.tmp 4]
noncomputable def S7 (a0 : Int × List (List Int × Int × Bool)) (a1 : List Int) : Option ((Bool × PUnit) × PUnit) := F7.sem (a0, a1, ())
theorem S7_eq (a0 : Int × List (List Int × Int × Bool)) (a1 : List Int) : S7 a0 a1 =
  bif decide ((↑a1.length : Int) > 1048576) then some ((true, ()), ())
else
  (S28 a0 1048576).bind fun (y : (Int × PUnit) × PUnit) =>
    bif decide (y.fst.fst < 0) then some ((true, ()), ())
    else
      (S30 a0).bind fun (y : ((Int × List (List Int × Int × Bool)) × PUnit) × PUnit) =>
        (S31 a1).bind fun (y_1 : (List Int × PUnit) × PUnit) =>
          (S29 y.fst.fst y_1.fst.fst).bind fun (y : ((Int × List (List Int × Int × Bool)) × Bool × PUnit) × PUnit) =>
            (S30 a0).bind fun (y_2 : ((Int × List (List Int × Int × Bool)) × PUnit) × PUnit) =>
              (S31 a1).bind fun (y_3 : (List Int × PUnit) × PUnit) =>
                (S32 y_2.fst.fst y_3.fst.fst).bind
                  fun (y_4 : ((Int × List (List Int × Int × Bool)) × Bool × PUnit) × PUnit) =>
                  (S33 y_4.fst.fst y.fst.fst).bind fun (y_5 : (Bool × PUnit) × PUnit) =>
                    bif !y_5.fst.fst then some ((false, ()), ())
                    else
                      bif !y_4.fst.snd.fst == y.fst.snd.fst then some ((false, ()), ())
                      else
                        (S30 a0).bind fun (y_6 : ((Int × List (List Int × Int × Bool)) × PUnit) × PUnit) =>
                          (S33 y_2.fst.fst y_6.fst.fst).bind fun (y_7 : (Bool × PUnit) × PUnit) =>
                            bif !y_7.fst.fst then some ((false, ()), ())
                            else
                              (S31 a1).bind fun (y_8 : (List Int × PUnit) × PUnit) =>
                                (S34 y_3.fst.fst y_8.fst.fst).bind fun (y_9 : (Bool × PUnit) × PUnit) =>
                                  bif !y_9.fst.fst then some ((false, ()), ())
                                  else
                                    (S35 y_2.fst.fst 1).bind
                                      fun (y_10 : (Int × PUnit) × (Int × List (List Int × Int × Bool)) × PUnit) =>
                                      (S36 y_3.fst.fst y_10.fst.fst).bind
                                        fun (y_11 : (Int × PUnit) × List Int × PUnit) =>
                                        bif decide (y_11.fst.fst < 0) then some ((false, ()), ())
                                        else
                                          (S33 y_4.fst.fst y.fst.fst).bind fun (y_12 : (Bool × PUnit) × PUnit) =>
                                            bif !y_12.fst.fst then some ((false, ()), ())
                                            else
                                              bif !y_4.fst.snd.fst == y.fst.snd.fst then some ((false, ()), ())
                                              else
                                                (S35 y_4.fst.fst 1).bind
                                                  fun
                                                    (y_13 :
                                                      (Int × PUnit) × (Int × List (List Int × Int × Bool)) × PUnit) =>
                                                  (S37 y_13.snd.fst 1).bind fun (y_14 : (Int × PUnit) × PUnit) =>
                                                    bif decide (y_14.fst.fst < 0) then some ((false, ()), ())
                                                    else
                                                      bif y_14.fst.fst != y_13.fst.fst then some ((false, ()), ())
                                                      else
                                                        (S30 a0).bind
                                                          fun
                                                            (y_15 :
                                                              ((Int × List (List Int × Int × Bool)) × PUnit) × PUnit) =>
                                                          (S31 a1).bind fun (y_16 : (List Int × PUnit) × PUnit) =>
                                                            (S32 y_15.fst.fst y_16.fst.fst).bind
                                                              fun
                                                                (y_17 :
                                                                  ((Int × List (List Int × Int × Bool)) ×
                                                                      Bool × PUnit) ×
                                                                    PUnit) =>
                                                              (S33 y_17.fst.fst y.fst.fst).bind
                                                                fun (y_18 : (Bool × PUnit) × PUnit) =>
                                                                bif !y_18.fst.fst then some ((false, ()), ())
                                                                else
                                                                  bif !y_17.fst.snd.fst == y.fst.snd.fst then
                                                                    some ((false, ()), ())
                                                                  else
                                                                    (S37 y_13.snd.fst 1).bind
                                                                      fun (y : (Int × PUnit) × PUnit) =>
                                                                      bif decide (y.fst.fst < 0) then
                                                                        some ((false, ()), ())
                                                                      else
                                                                        bif y.fst.fst != y_13.fst.fst then
                                                                          some ((false, ()), ())
                                                                        else some ((true, ()), ()) := by kernel_rfl
noncomputable def E135 : Env := mkEnv C tab7 [0, 1, 2, 3, 6, 12] 19 (fun (k : Nat) => bif k == 1 then some 22 else none)
  { hx := fun (x x_1 : Nat) => none, bx := fun (s : Nat) => Nat.testBit 4 s,
    kids := fun (r : Nat) => bif r == 2 then [13] else [] }
  [(ty167, Mode.ro), (ty3, Mode.ro)]
noncomputable def K135 := endK C [(ty167, Mode.ro), (ty3, Mode.ro)] [(ty3, 0)] [RV.tmp 4]
noncomputable def S135 (a0 : ByteArray × Int × List (List Int × Int × Bool)) (a1 : Int) : Option ((Int × PUnit) × PUnit) := F135.sem (a0, a1, ())
theorem S135_eq (a0 : ByteArray × Int × List (List Int × Int × Bool)) (a1 : Int) : S135 a0 a1 =
  bif decide (IntKind.i64.wrap (a1 - (↑(ByteArray.size a0.fst) : Int)) < 0) then some ((-1, ()), ())
else
  (S28 a0.snd (IntKind.i64.wrap (a1 - (↑(ByteArray.size a0.fst) : Int)))).bind fun (y : (Int × PUnit) × PUnit) =>
    bif decide (y.fst.fst < 0) then some ((-1, ()), ()) else some ((y.fst.fst, ()), ()) := by kernel_rfl
noncomputable def E126 : Env := mkEnv C tab135 [0, 1, 2, 3, 5, 18, 20] 27 (fun (k : Nat) => bif k == 1000005 then some 35 else none)
  { hx := fun (x x_1 : Nat) => none, bx := fun (s : Nat) => Nat.testBit 0 s, kids := fun (x : Nat) => [] }
  [(ty133, Mode.ro), (ty3, Mode.ro)]
noncomputable def K126 := endK C [(ty133, Mode.ro), (ty3, Mode.ro)] [(ty3, 0)] [RV.tmp 4]
noncomputable def L126_5 (x0 : List (ByteArray × Int × List (List Int × Int × Bool))) (x1 : Int) (x5 : Int) : Option ((Int × PUnit) × PUnit) := loopAt E126 [1, 1, 1, 0, 1, 0] (Try.f126.body.getD .skip) K126 [V.d none 0 ty133 x0, V.d none 0 (Ty.int IntKind.i64) x1, V.dead, V.dead, V.dead, V.d none 0 (Ty.int IntKind.i64) x5,
  V.dead, V.dead, V.dead, V.dead, V.dead, V.dead, V.dead, V.dead, V.dead, V.dead, V.dead, V.dead, V.dead, V.dead,
  V.dead, V.dead, V.dead, V.dead, V.dead, V.dead, V.dead]
theorem L126_5_eq (x0 : List (ByteArray × Int × List (List Int × Int × Bool))) (x1 : Int) (x5 : Int) : L126_5 x0 x1 x5 =
  bif decide (x5 < (↑x0.length : Int)) then
  (getI x0 x5).bind fun (y : ByteArray × Int × List (List Int × Int × Bool)) =>
    (S135 y x1).bind fun (y : (Int × PUnit) × PUnit) =>
      bif decide (y.fst.fst < 0) then some ((-1, ()), ()) else L126_5 x0 y.fst.fst (IntKind.i64.wrap (x5 + 1))
else some ((x1, ()), ()) := (loopAt_eq _ _ _ _ _).trans (by kernel_rfl)
noncomputable def S126 (a0 : List (ByteArray × Int × List (List Int × Int × Bool))) (a1 : Int) : Option ((Int × PUnit) × PUnit) := F126.sem (a0, a1, ())
theorem S126_eq (a0 : List (ByteArray × Int × List (List Int × Int × Bool))) (a1 : Int) : S126 a0 a1 =
  bif decide (IntKind.i64.wrap (a1 - (↑a0.length : Int)) < 0) then some ((-1, ()), ())
else L126_5 a0 (IntKind.i64.wrap (a1 - (↑a0.length : Int))) 0 := by kernel_rfl
noncomputable def E93 : Env := mkEnv C tab126 [0, 1, 2, 3, 6, 12] 19 (fun (k : Nat) => bif k == 1 then some 22 else none)
  { hx := fun (x x_1 : Nat) => none, bx := fun (s : Nat) => Nat.testBit 4 s,
    kids := fun (r : Nat) => bif r == 2 then [13] else [] }
  [(ty135, Mode.ro), (ty3, Mode.ro)]
noncomputable def K93 := endK C [(ty135, Mode.ro), (ty3, Mode.ro)] [(ty3, 0)] [RV.tmp 4]
noncomputable def S93 (a0 : ByteArray × Int × List (ByteArray × Int × List (List Int × Int × Bool))) (a1 : Int) : Option ((Int × PUnit) × PUnit) := F93.sem (a0, a1, ())
theorem S93_eq (a0 : ByteArray × Int × List (ByteArray × Int × List (List Int × Int × Bool))) (a1 : Int) : S93 a0 a1 =
  bif decide (IntKind.i64.wrap (a1 - (↑(ByteArray.size a0.fst) : Int)) < 0) then some ((-1, ()), ())
else
  (S126 a0.snd.snd (IntKind.i64.wrap (a1 - (↑(ByteArray.size a0.fst) : Int)))).bind fun (y : (Int × PUnit) × PUnit) =>
    bif decide (y.fst.fst < 0) then some ((-1, ()), ()) else some ((y.fst.fst, ()), ()) := by kernel_rfl
noncomputable def E52 : Env := mkEnv C tab93 [0, 1, 2, 3, 5, 18, 20] 27 (fun (k : Nat) => bif k == 1000005 then some 35 else none)
  { hx := fun (x x_1 : Nat) => none, bx := fun (s : Nat) => Nat.testBit 0 s, kids := fun (x : Nat) => [] }
  [(ty78, Mode.ro), (ty3, Mode.ro)]
noncomputable def K52 := endK C [(ty78, Mode.ro), (ty3, Mode.ro)] [(ty3, 0)] [RV.tmp 4]
noncomputable def L52_5 (x0 : List (ByteArray × Int × List (ByteArray × Int × List (List Int × Int × Bool)))) (x1 : Int) (x5 : Int) : Option ((Int × PUnit) × PUnit) := loopAt E52 [1, 1, 1, 0, 1, 0] (Try.f52.body.getD .skip) K52 [V.d none 0 ty78 x0, V.d none 0 (Ty.int IntKind.i64) x1, V.dead, V.dead, V.dead, V.d none 0 (Ty.int IntKind.i64) x5,
  V.dead, V.dead, V.dead, V.dead, V.dead, V.dead, V.dead, V.dead, V.dead, V.dead, V.dead, V.dead, V.dead, V.dead,
  V.dead, V.dead, V.dead, V.dead, V.dead, V.dead, V.dead]
theorem L52_5_eq (x0 : List (ByteArray × Int × List (ByteArray × Int × List (List Int × Int × Bool)))) (x1 : Int) (x5 : Int) : L52_5 x0 x1 x5 =
  bif decide (x5 < (↑x0.length : Int)) then
  (getI x0 x5).bind fun (y : ByteArray × Int × List (ByteArray × Int × List (List Int × Int × Bool))) =>
    (S93 y x1).bind fun (y : (Int × PUnit) × PUnit) =>
      bif decide (y.fst.fst < 0) then some ((-1, ()), ()) else L52_5 x0 y.fst.fst (IntKind.i64.wrap (x5 + 1))
else some ((x1, ()), ()) := (loopAt_eq _ _ _ _ _).trans (by kernel_rfl)
noncomputable def S52 (a0 : List (ByteArray × Int × List (ByteArray × Int × List (List Int × Int × Bool)))) (a1 : Int) : Option ((Int × PUnit) × PUnit) := F52.sem (a0, a1, ())
theorem S52_eq (a0 : List (ByteArray × Int × List (ByteArray × Int × List (List Int × Int × Bool)))) (a1 : Int) : S52 a0 a1 =
  bif decide (IntKind.i64.wrap (a1 - (↑a0.length : Int)) < 0) then some ((-1, ()), ())
else L52_5 a0 (IntKind.i64.wrap (a1 - (↑a0.length : Int))) 0 := by kernel_rfl
noncomputable def E53 : Env := mkEnv C tab52 [0, 1, 2, 3, 6, 13, 19, 25] 32
  (fun (k : Nat) => bif k == 1 then some 22 else bif k == 4 then some 22 else none)
  { hx := fun (x x_1 : Nat) => none, bx := fun (s : Nat) => Nat.testBit 4 s,
    kids := fun (r : Nat) => bif r == 2 then [20, 26] else [] }
  [(ty80, Mode.ro), (ty3, Mode.ro)]
noncomputable def K53 := endK C [(ty80, Mode.ro), (ty3, Mode.ro)] [(ty3, 0)] [RV.tmp 4]
noncomputable def S53 (a0 : Int × ByteArray × ByteArray × (Int × List (List Int × Int × Bool)) × List Int) (a1 : Int) : Option ((Int × PUnit) × PUnit) := F53.sem (a0, a1, ())
theorem S53_eq (a0 : Int × ByteArray × ByteArray × (Int × List (List Int × Int × Bool)) × List Int) (a1 : Int) : S53 a0 a1 =
  bif decide (IntKind.i64.wrap (a1 - (↑(ByteArray.size a0.snd.fst) : Int)) < 0) then some ((-1, ()), ())
else
  bif
      decide
        (IntKind.i64.wrap
            (IntKind.i64.wrap (a1 - (↑(ByteArray.size a0.snd.fst) : Int)) - (↑(ByteArray.size a0.snd.snd.fst) : Int)) <
          0) then
    some ((-1, ()), ())
  else
    (S28 a0.snd.snd.snd.fst
          (IntKind.i64.wrap
            (IntKind.i64.wrap (a1 - (↑(ByteArray.size a0.snd.fst) : Int)) -
              (↑(ByteArray.size a0.snd.snd.fst) : Int)))).bind
      fun (y : (Int × PUnit) × PUnit) =>
      bif decide (y.fst.fst < 0) then some ((-1, ()), ())
      else
        (S94 a0.snd.snd.snd.snd y.fst.fst).bind fun (y : (Int × PUnit) × PUnit) =>
          bif decide (y.fst.fst < 0) then some ((-1, ()), ()) else some ((y.fst.fst, ()), ()) := by kernel_rfl
noncomputable def E136 : Env := mkEnv C tab53 [0, 1, 2, 3, 4, 7] 12
  (fun (k : Nat) => bif k == 2 then some 14 else bif k == 3 then some 14 else bif k == 4 then some 12 else none)
  { hx := fun (x x_1 : Nat) => none, bx := fun (s : Nat) => Nat.testBit 14 s,
    kids := fun (r : Nat) => bif r == 1 then [8] else bif r == 2 then [] else bif r == 3 then [11] else [] }
  [(ty167, Mode.ro)]
noncomputable def K136 := endK C [(ty167, Mode.ro)] [(ty169, 2)] [RV.cell 2 169]
noncomputable def S136 (a0 : ByteArray × Int × List (List Int × Int × Bool)) : Option (((ByteArray × Int × List (List Int × Int × Bool)) × PUnit) × PUnit) := F136.sem (a0, ())
theorem S136_eq (a0 : ByteArray × Int × List (List Int × Int × Bool)) : S136 a0 =
  (S30 a0.snd).bind fun (y : ((Int × List (List Int × Int × Bool)) × PUnit) × PUnit) =>
  some (((a0.fst, y.fst.fst), ()), ()) := by kernel_rfl
noncomputable def E128 : Env := mkEnv C tab136 [0, 1, 3, 4, 14, 16, 18] 23 (fun (k : Nat) => bif k == 1000003 then some 25 else none)
  { hx := fun (x x_1 : Nat) => none, bx := fun (s : Nat) => Nat.testBit 0 s, kids := fun (x : Nat) => [] }
  [(ty133, Mode.ro)]
noncomputable def K128 := endK C [(ty133, Mode.ro)] [(ty139, 3)] [RV.tmp 2]
noncomputable def L128_3 (x0 : List (ByteArray × Int × List (List Int × Int × Bool))) (x3 : List (ByteArray × Int × List (List Int × Int × Bool))) (x4 : Int) : Option ((List (ByteArray × Int × List (List Int × Int × Bool)) × PUnit) × PUnit) := loopAt E128 [1, 1, 0, 1, 0] (Try.f128.body.getD .skip) K128 [V.d none 0 ty133 x0, V.dead, V.dead, V.d none (ty169.depth + 1) (Ty.slice 169 ty169) x3,
  V.d none 0 (Ty.int IntKind.i64) x4, V.dead, V.dead, V.dead, V.dead, V.dead, V.dead, V.dead, V.dead, V.dead, V.dead,
  V.dead, V.dead, V.dead, V.dead, V.dead, V.dead, V.dead, V.dead]
theorem L128_3_eq (x0 : List (ByteArray × Int × List (List Int × Int × Bool))) (x3 : List (ByteArray × Int × List (List Int × Int × Bool))) (x4 : Int) : L128_3 x0 x3 x4 =
  bif decide (x4 < (↑x0.length : Int)) then
  (getI x0 x4).bind fun (y : ByteArray × Int × List (List Int × Int × Bool)) =>
    (S136 y).bind fun (y : ((ByteArray × Int × List (List Int × Int × Bool)) × PUnit) × PUnit) =>
      (getI x3 x4).bind fun (y_1 : ByteArray × Int × List (List Int × Int × Bool)) =>
        (getI x3 x4).bind fun (y_2 : ByteArray × Int × List (List Int × Int × Bool)) =>
          (getI x3 x4).bind fun (y_3 : ByteArray × Int × List (List Int × Int × Bool)) =>
            L128_3 x0 (x3.set x4.toNat y.fst.fst) (IntKind.i64.wrap (x4 + 1))
else some ((x3, ()), ()) := (loopAt_eq _ _ _ _ _).trans (by kernel_rfl)
noncomputable def S128 (a0 : List (ByteArray × Int × List (List Int × Int × Bool))) : Option ((List (ByteArray × Int × List (List Int × Int × Bool)) × PUnit) × PUnit) := F128.sem (a0, ())
theorem S128_eq (a0 : List (ByteArray × Int × List (List Int × Int × Bool))) : S128 a0 =
  bif
    decide (0 ≤ (↑a0.length : Int)) && decide ((↑a0.length : Int) ≤ (↑a0.length : Int)) &&
        decide ((↑a0.length : Int) * (↑48 : Int) ≤ 140737488355328) &&
      decide ((↑a0.length : Int) ≤ 9223372036854775807) then
  L128_3 a0 (List.replicate (↑a0.length : Int).toNat ty169.zero) 0
else none := by kernel_rfl
noncomputable def E98 : Env := mkEnv C tab128 [0, 1, 2, 3, 4, 7, 10] 15
  (fun (k : Nat) =>
    bif k == 2 then some 14
    else bif k == 3 then some 14 else bif k == 4 then some 14 else bif k == 5 then some 12 else none)
  { hx := fun (x x_1 : Nat) => none, bx := fun (s : Nat) => Nat.testBit 14 s,
    kids := fun (r : Nat) => bif r == 1 then [11] else bif r == 2 then [] else bif r == 3 then [14] else [] }
  [(ty135, Mode.ro)]
noncomputable def K98 := endK C [(ty135, Mode.ro)] [(ty141, 3)] [RV.cell 2 141]
noncomputable def S98 (a0 : ByteArray × Int × List (ByteArray × Int × List (List Int × Int × Bool))) : Option (((ByteArray × Int × List (ByteArray × Int × List (List Int × Int × Bool))) × PUnit) × PUnit) := F98.sem (a0, ())
theorem S98_eq (a0 : ByteArray × Int × List (ByteArray × Int × List (List Int × Int × Bool))) : S98 a0 =
  (S128 a0.snd.snd).bind fun (y : (List (ByteArray × Int × List (List Int × Int × Bool)) × PUnit) × PUnit) =>
  some (((a0.fst, a0.snd.fst, y.fst.fst), ()), ()) := by kernel_rfl
noncomputable def E55 : Env := mkEnv C tab98 [0, 1, 3, 4, 14, 16, 18] 23 (fun (k : Nat) => bif k == 1000003 then some 25 else none)
  { hx := fun (x x_1 : Nat) => none, bx := fun (s : Nat) => Nat.testBit 0 s, kids := fun (x : Nat) => [] }
  [(ty78, Mode.ro)]
noncomputable def K55 := endK C [(ty78, Mode.ro)] [(ty84, 4)] [RV.tmp 2]
noncomputable def L55_3 (x0 : List (ByteArray × Int × List (ByteArray × Int × List (List Int × Int × Bool)))) (x3 : List (ByteArray × Int × List (ByteArray × Int × List (List Int × Int × Bool)))) (x4 : Int) : Option ((List (ByteArray × Int × List (ByteArray × Int × List (List Int × Int × Bool))) × PUnit) × PUnit) := loopAt E55 [1, 1, 0, 1, 0] (Try.f55.body.getD .skip) K55 [V.d none 0 ty78 x0, V.dead, V.dead, V.d none (ty141.depth + 1) (Ty.slice 141 ty141) x3,
  V.d none 0 (Ty.int IntKind.i64) x4, V.dead, V.dead, V.dead, V.dead, V.dead, V.dead, V.dead, V.dead, V.dead, V.dead,
  V.dead, V.dead, V.dead, V.dead, V.dead, V.dead, V.dead, V.dead]
theorem L55_3_eq (x0 : List (ByteArray × Int × List (ByteArray × Int × List (List Int × Int × Bool)))) (x3 : List (ByteArray × Int × List (ByteArray × Int × List (List Int × Int × Bool)))) (x4 : Int) : L55_3 x0 x3 x4 =
  bif decide (x4 < (↑x0.length : Int)) then
  (getI x0 x4).bind fun (y : ByteArray × Int × List (ByteArray × Int × List (List Int × Int × Bool))) =>
    (S98 y).bind
      fun (y : ((ByteArray × Int × List (ByteArray × Int × List (List Int × Int × Bool))) × PUnit) × PUnit) =>
      (getI x3 x4).bind fun (y_1 : ByteArray × Int × List (ByteArray × Int × List (List Int × Int × Bool))) =>
        (getI x3 x4).bind fun (y_2 : ByteArray × Int × List (ByteArray × Int × List (List Int × Int × Bool))) =>
          (getI x3 x4).bind fun (y_3 : ByteArray × Int × List (ByteArray × Int × List (List Int × Int × Bool))) =>
            L55_3 x0 (x3.set x4.toNat y.fst.fst) (IntKind.i64.wrap (x4 + 1))
else some ((x3, ()), ()) := (loopAt_eq _ _ _ _ _).trans (by kernel_rfl)
noncomputable def S55 (a0 : List (ByteArray × Int × List (ByteArray × Int × List (List Int × Int × Bool)))) : Option ((List (ByteArray × Int × List (ByteArray × Int × List (List Int × Int × Bool))) × PUnit) × PUnit) := F55.sem (a0, ())
theorem S55_eq (a0 : List (ByteArray × Int × List (ByteArray × Int × List (List Int × Int × Bool)))) : S55 a0 =
  bif
    decide (0 ≤ (↑a0.length : Int)) && decide ((↑a0.length : Int) ≤ (↑a0.length : Int)) &&
        decide ((↑a0.length : Int) * (↑48 : Int) ≤ 140737488355328) &&
      decide ((↑a0.length : Int) ≤ 9223372036854775807) then
  L55_3 a0 (List.replicate (↑a0.length : Int).toNat ty141.zero) 0
else none := by kernel_rfl
noncomputable def E56 : Env := mkEnv C tab55 [0, 1, 2, 3, 4, 7, 10, 13, 17] 22
  (fun (k : Nat) =>
    bif k == 2 then some 14
    else
      bif k == 3 then some 14
      else
        bif k == 4 then some 14
        else bif k == 5 then some 14 else bif k == 6 then some 14 else bif k == 7 then some 12 else none)
  { hx := fun (x x_1 : Nat) => none, bx := fun (s : Nat) => Nat.testBit 14 s,
    kids := fun (r : Nat) => bif r == 1 then [14, 18] else bif r == 2 then [] else bif r == 3 then [21] else [] }
  [(ty80, Mode.ro)]
noncomputable def K56 := endK C [(ty80, Mode.ro)] [(ty87, 2)] [RV.cell 2 87]
noncomputable def S56 (a0 : Int × ByteArray × ByteArray × (Int × List (List Int × Int × Bool)) × List Int) : Option (((Int × ByteArray × ByteArray × (Int × List (List Int × Int × Bool)) × List Int) × PUnit) × PUnit) := F56.sem (a0, ())
theorem S56_eq (a0 : Int × ByteArray × ByteArray × (Int × List (List Int × Int × Bool)) × List Int) : S56 a0 =
  (S30 a0.snd.snd.snd.fst).bind fun (y : ((Int × List (List Int × Int × Bool)) × PUnit) × PUnit) =>
  (S31 a0.snd.snd.snd.snd).bind fun (y_1 : (List Int × PUnit) × PUnit) =>
    some (((a0.fst, a0.snd.fst, a0.snd.snd.fst, y.fst.fst, y_1.fst.fst), ()), ()) := by kernel_rfl
noncomputable def E95 : Env := mkEnv C tab56 [0, 1, 2, 3, 5, 12, 14, 15] 20 (fun (k : Nat) => bif k == 1000002 then some 35 else none)
  { hx := fun (x x_1 : Nat) => none, bx := fun (s : Nat) => Nat.testBit 0 s, kids := fun (x : Nat) => [] }
  [(ty84, Mode.ro), (ty9, Mode.ro)]
noncomputable def K95 := endK C [(ty84, Mode.ro), (ty9, Mode.ro)] [(ty3, 0)] [RV.tmp 4]
noncomputable def L95_2 (x0 : List (ByteArray × Int × List (ByteArray × Int × List (List Int × Int × Bool)))) (x1 : ByteArray) (x5 : Int) : Option ((Int × PUnit) × PUnit) := loopAt E95 [1, 0, 1, 0] (Try.f95.body.getD .skip) K95 [V.d none 0 ty84 x0, V.d none 0 ty9 x1, V.dead, V.dead, V.dead, V.d none 0 (Ty.int IntKind.i64) x5, V.dead, V.dead,
  V.dead, V.dead, V.dead, V.dead, V.dead, V.dead, V.dead, V.dead, V.dead, V.dead, V.dead, V.dead]
theorem L95_2_eq (x0 : List (ByteArray × Int × List (ByteArray × Int × List (List Int × Int × Bool)))) (x1 : ByteArray) (x5 : Int) : L95_2 x0 x1 x5 =
  bif decide (x5 < (↑x0.length : Int)) then
  (getI x0 x5).bind fun (y : ByteArray × Int × List (ByteArray × Int × List (List Int × Int × Bool))) =>
    bif ByteArray.toList y.fst == x1.toList then some ((x5, ()), ()) else L95_2 x0 x1 (IntKind.i64.wrap (x5 + 1))
else some ((-1, ()), ()) := (loopAt_eq _ _ _ _ _).trans (by kernel_rfl)
noncomputable def S95 (a0 : List (ByteArray × Int × List (ByteArray × Int × List (List Int × Int × Bool)))) (a1 : ByteArray) : Option ((Int × PUnit) × PUnit) := F95.sem (a0, a1, ())
theorem S95_eq (a0 : List (ByteArray × Int × List (ByteArray × Int × List (List Int × Int × Bool)))) (a1 : ByteArray) : S95 a0 a1 =
  L95_2 a0 a1 0 := by kernel_rfl
noncomputable def E97 : Env := mkEnv C tab95 [0, 1, 2, 3, 4, 5, 7] 29 (fun (k : Nat) => bif k == 1000002 then some 135 else none)
  { hx := fun (x x_1 : Nat) => none, bx := fun (s : Nat) => Nat.testBit 0 s, kids := fun (x : Nat) => [] }
  [(ty9, Mode.ro), (ty5, Mode.ro), (ty5, Mode.ro)]
noncomputable def K97 := endK C [(ty9, Mode.ro), (ty5, Mode.ro), (ty5, Mode.ro)] [(ty4, 0)] [RV.tmp 6]
noncomputable def L97_2 (x0 : ByteArray) (x1 : Int) (x2 : Int) (x7 : Int) : Option ((Bool × PUnit) × PUnit) := loopAt E97 [1, 0, 1, 0] (Try.f97.body.getD .skip) K97 [V.d none 0 ty9 x0, V.d none 0 ty5 x1, V.d none 0 ty5 x2, V.dead, V.dead, V.dead, V.dead,
  V.d none 0 (Ty.int IntKind.i64) x7, V.dead, V.dead, V.dead, V.dead, V.dead, V.dead, V.dead, V.dead, V.dead, V.dead,
  V.dead, V.dead, V.dead, V.dead, V.dead, V.dead, V.dead, V.dead, V.dead, V.dead, V.dead]
theorem L97_2_eq (x0 : ByteArray) (x1 : Int) (x2 : Int) (x7 : Int) : L97_2 x0 x1 x2 x7 =
  bif decide (x7 < (↑x0.size : Int)) then
  (getB x0 x7).bind fun (y : Int) =>
    bif decide (y < x1) then some ((false, ()), ())
    else
      (getB x0 x7).bind fun (y : Int) =>
        bif decide (y > x2) then some ((false, ()), ()) else L97_2 x0 x1 x2 (IntKind.i64.wrap (x7 + 1))
else (S62 (↑x0.size : Int) 1 6).bind fun (y : (Bool × PUnit) × PUnit) => some ((y.fst.fst, ()), ()) := (loopAt_eq _ _ _ _ _).trans (by kernel_rfl)
noncomputable def S97 (a0 : ByteArray) (a1 : Int) (a2 : Int) : Option ((Bool × PUnit) × PUnit) := F97.sem (a0, a1, a2, ())
theorem S97_eq (a0 : ByteArray) (a1 : Int) (a2 : Int) : S97 a0 a1 a2 =
  L97_2 a0 a1 a2 0 := by kernel_rfl
noncomputable def E127 : Env := mkEnv C tab97 [0, 1, 3, 5, 11, 12, 14, 15, 20, 21, 23, 24, 30, 31, 33, 34, 35, 37, 41, 45, 50] 55
  (fun (k : Nat) => bif k == 2 then some 14 else bif k == 6 then some 6 else bif k == 1000002 then some 10 else none)
  { hx := fun (x x_1 : Nat) => none, bx := fun (s : Nat) => Nat.testBit 2 s,
    kids := fun (r : Nat) => bif r == 1 then [6, 12, 14, 15, 21, 23, 24, 25, 31, 33, 34, 35, 51] else [] }
  [(ty141, Mode.ro)]
noncomputable def K127 := endK C [(ty141, Mode.ro)] [(ty4, 0)] [RV.tmp 2]
noncomputable def L127_2 (x1 : ByteArray × Int × List (ByteArray × Int × List (List Int × Int × Bool))) (x3 : Int) : Option ((Bool × PUnit) × PUnit) := loopAt E127 [1, 0, 1, 0] (Try.f127.body.getD .skip) K127 [V.dead, V.box none 0 ty141 x1, V.dead, V.d none 0 (Ty.int IntKind.i64) x3, V.dead, V.dead, V.dead, V.dead, V.dead,
  V.dead, V.dead, V.dead, V.dead, V.dead, V.dead, V.dead, V.dead, V.dead, V.dead, V.dead, V.dead, V.dead, V.dead,
  V.dead, V.dead, V.dead, V.dead, V.dead, V.dead, V.dead, V.dead, V.dead, V.dead, V.dead, V.dead, V.dead, V.dead,
  V.dead, V.dead, V.dead, V.dead, V.dead, V.dead, V.dead, V.dead, V.dead, V.dead, V.dead, V.dead, V.dead, V.dead,
  V.dead, V.dead, V.dead, V.dead]
theorem L127_2_eq (x1 : ByteArray × Int × List (ByteArray × Int × List (List Int × Int × Bool))) (x3 : Int) : L127_2 x1 x3 =
  bif decide (x3 < (↑(List.length x1.snd.snd) : Int)) then
  (getI x1.snd.snd x3).bind fun (y : ByteArray × Int × List (List Int × Int × Bool)) =>
    (S97 y.fst 97 122).bind fun (y : (Bool × PUnit) × PUnit) =>
      bif !y.fst.fst then some ((false, ()), ())
      else
        (getI x1.snd.snd x3).bind fun (y : ByteArray × Int × List (List Int × Int × Bool)) =>
          (S73 y.snd).bind fun (y : (Bool × PUnit) × PUnit) =>
            bif !y.fst.fst then some ((false, ()), ())
            else
              (getI x1.snd.snd x3).bind fun (y : ByteArray × Int × List (List Int × Int × Bool)) =>
                bif y.snd.fst != x1.snd.fst then some ((false, ()), ()) else L127_2 x1 (IntKind.i64.wrap (x3 + 1))
else
  (S97 x1.fst 65 90).bind fun (y : (Bool × PUnit) × PUnit) =>
    bif y.fst.fst then
      (S62 x1.snd.fst 0 4).bind fun (y : (Bool × PUnit) × PUnit) =>
        bif y.fst.fst then some ((decide ((↑(List.length x1.snd.snd) : Int) ≤ 8), ()), ()) else some ((false, ()), ())
    else some ((false, ()), ()) := (loopAt_eq _ _ _ _ _).trans (by kernel_rfl)
noncomputable def S127 (a0 : ByteArray × Int × List (ByteArray × Int × List (List Int × Int × Bool))) : Option ((Bool × PUnit) × PUnit) := F127.sem (a0, ())
theorem S127_eq (a0 : ByteArray × Int × List (ByteArray × Int × List (List Int × Int × Bool))) : S127 a0 =
  L127_2 a0 0 := by kernel_rfl
noncomputable def E96 : Env := mkEnv C tab127 [0, 1, 3, 10, 12, 17, 20, 22, 23] 31 (fun (k : Nat) => bif k == 1000002 then some 9 else none)
  { hx := fun (x x_1 : Nat) => none, bx := fun (s : Nat) => Nat.testBit 0 s, kids := fun (x : Nat) => [] }
  [(ty84, Mode.ro)]
noncomputable def K96 := endK C [(ty84, Mode.ro)] [(ty4, 0)] [RV.tmp 2]
noncomputable def L96_2 (x0 : List (ByteArray × Int × List (ByteArray × Int × List (List Int × Int × Bool)))) (x3 : Int) : Option ((Bool × PUnit) × PUnit) := loopAt E96 [1, 0, 1, 0] (Try.f96.body.getD .skip) K96 [V.d none 0 ty84 x0, V.dead, V.dead, V.d none 0 (Ty.int IntKind.i64) x3, V.dead, V.dead, V.dead, V.dead, V.dead, V.dead,
  V.dead, V.dead, V.dead, V.dead, V.dead, V.dead, V.dead, V.dead, V.dead, V.dead, V.dead, V.dead, V.dead, V.dead,
  V.dead, V.dead, V.dead, V.dead, V.dead, V.dead, V.dead]
theorem L96_2_eq (x0 : List (ByteArray × Int × List (ByteArray × Int × List (List Int × Int × Bool)))) (x3 : Int) : L96_2 x0 x3 =
  bif decide (x3 < (↑x0.length : Int)) then
  (getI x0 x3).bind fun (y : ByteArray × Int × List (ByteArray × Int × List (List Int × Int × Bool))) =>
    (S127 y).bind fun (y : (Bool × PUnit) × PUnit) =>
      bif !y.fst.fst then some ((false, ()), ())
      else
        bif decide (0 ≤ 0) && decide (0 ≤ x3) && decide (x3 ≤ (↑x0.length : Int)) then
          (getI x0 x3).bind fun (y : ByteArray × Int × List (ByteArray × Int × List (List Int × Int × Bool))) =>
            (S95 (List.drop (Int.toNat 0) (List.take x3.toNat x0)) y.fst).bind fun (y : (Int × PUnit) × PUnit) =>
              bif decide (y.fst.fst ≥ 0) then some ((false, ()), ()) else L96_2 x0 (IntKind.i64.wrap (x3 + 1))
        else none
else some ((decide ((↑x0.length : Int) ≤ 6), ()), ()) := (loopAt_eq _ _ _ _ _).trans (by kernel_rfl)
noncomputable def S96 (a0 : List (ByteArray × Int × List (ByteArray × Int × List (List Int × Int × Bool)))) : Option ((Bool × PUnit) × PUnit) := F96.sem (a0, ())
theorem S96_eq (a0 : List (ByteArray × Int × List (ByteArray × Int × List (List Int × Int × Bool)))) : S96 a0 =
  L96_2 a0 0 := by kernel_rfl
noncomputable def E54 : Env := mkEnv C tab96
  [0, 1, 2, 3, 5, 6, 8, 19, 25, 30, 34, 40, 41, 43, 47, 50, 52, 53, 57, 58, 63, 64, 69, 74, 79, 80, 82, 84, 85] 89
  (fun (k : Nat) =>
    bif k == 6 then some 121
    else bif k == 10 then some 57 else bif k == 11 then some 57 else bif k == 1000006 then some 105 else none)
  { hx := fun (x x_1 : Nat) => none, bx := fun (s : Nat) => Nat.testBit 8 s,
    kids := fun (r : Nat) => bif r == 3 then [35, 41, 43, 48, 65, 70, 75] else [] }
  [(ty84, Mode.ro), (ty87, Mode.ro)]
noncomputable def K54 := endK C [(ty84, Mode.ro), (ty87, Mode.ro)] [(ty4, 0)] [RV.tmp 4]
noncomputable def L54_6 (x0 : List (ByteArray × Int × List (ByteArray × Int × List (List Int × Int × Bool)))) (x3 : Int × ByteArray × ByteArray × (Int × List (List Int × Int × Bool)) × List Int) (x5 : Int) (x6 : Int) : Option ((Bool × PUnit) × PUnit) := loopAt E54 [1, 1, 1, 0, 1, 0, 0, 1, 0] (Try.f54.body.getD .skip) K54 [V.d none 0 ty84 x0, V.dead, V.dead, V.box none 0 ty87 x3, V.dead, V.d none 0 ty3 x5,
  V.d none 0 (Ty.int IntKind.i64) x6, V.dead, V.dead, V.dead, V.dead, V.dead, V.dead, V.dead, V.dead, V.dead, V.dead,
  V.dead, V.dead, V.dead, V.dead, V.dead, V.dead, V.dead, V.dead, V.dead, V.dead, V.dead, V.dead, V.dead, V.dead,
  V.dead, V.dead, V.dead, V.dead, V.dead, V.dead, V.dead, V.dead, V.dead, V.dead, V.dead, V.dead, V.dead, V.dead,
  V.dead, V.dead, V.dead, V.dead, V.dead, V.dead, V.dead, V.dead, V.dead, V.dead, V.dead, V.dead, V.dead, V.dead,
  V.dead, V.dead, V.dead, V.dead, V.dead, V.dead, V.dead, V.dead, V.dead, V.dead, V.dead, V.dead, V.dead, V.dead,
  V.dead, V.dead, V.dead, V.dead, V.dead, V.dead, V.dead, V.dead, V.dead, V.dead, V.dead, V.dead, V.dead, V.dead,
  V.dead, V.dead]
theorem L54_6_eq (x0 : List (ByteArray × Int × List (ByteArray × Int × List (List Int × Int × Bool)))) (x3 : Int × ByteArray × ByteArray × (Int × List (List Int × Int × Bool)) × List Int) (x5 : Int) (x6 : Int) : L54_6 x0 x3 x5 x6 =
  bif decide (x6 < (↑(List.length x3.snd.snd.snd.snd) : Int)) then
  (getI x3.snd.snd.snd.snd x6).bind fun (y : Int) =>
    (S62 y (-1000) 1000).bind fun (y : (Bool × PUnit) × PUnit) =>
      bif !y.fst.fst then some ((false, ()), ()) else L54_6 x0 x3 x5 (IntKind.i64.wrap (x6 + 1))
else
  (getI x0 x5).bind fun (y : ByteArray × Int × List (ByteArray × Int × List (List Int × Int × Bool))) =>
    bif (↑(List.length x3.snd.snd.snd.snd) : Int) == y.snd.fst then
      bif x3.snd.snd.snd.fst.fst == 0 then some (((↑(List.length x3.snd.snd.snd.fst.snd) : Int) == 0, ()), ())
      else some ((false, ()), ())
    else some ((false, ()), ()) := (loopAt_eq _ _ _ _ _).trans (by kernel_rfl)
noncomputable def S54 (a0 : List (ByteArray × Int × List (ByteArray × Int × List (List Int × Int × Bool)))) (a1 : Int × ByteArray × ByteArray × (Int × List (List Int × Int × Bool)) × List Int) : Option ((Bool × PUnit) × PUnit) := F54.sem (a0, a1, ())
theorem S54_eq (a0 : List (ByteArray × Int × List (ByteArray × Int × List (List Int × Int × Bool)))) (a1 : Int × ByteArray × ByteArray × (Int × List (List Int × Int × Bool)) × List Int) : S54 a0 a1 =
  (S95 a0 a1.snd.fst).bind fun (y : (Int × PUnit) × PUnit) =>
  (S96 a0).bind fun (y_1 : (Bool × PUnit) × PUnit) =>
    bif !y_1.fst.fst then some ((false, ()), ())
    else
      bif decide (y.fst.fst < 0) then some ((false, ()), ())
      else
        (S62 a1.fst 0 3).bind fun (y_2 : (Bool × PUnit) × PUnit) =>
          bif !y_2.fst.fst then some ((false, ()), ())
          else
            (S97 a1.snd.snd.fst 97 122).bind fun (y_3 : (Bool × PUnit) × PUnit) =>
              bif !y_3.fst.fst then some ((false, ()), ())
              else
                bif a1.fst == 3 then L54_6 a0 a1 y.fst.fst 0
                else
                  bif (↑(List.length a1.snd.snd.snd.snd) : Int) == 0 then
                    (S73 a1.snd.snd.snd.fst).bind fun (y_4 : (Bool × PUnit) × PUnit) =>
                      bif y_4.fst.fst then
                        (getI a0 y.fst.fst).bind
                          fun (y : ByteArray × Int × List (ByteArray × Int × List (List Int × Int × Bool))) =>
                          some ((a1.snd.snd.snd.fst.fst == y.snd.fst, ()), ())
                      else some ((false, ()), ())
                  else some ((false, ()), ()) := by kernel_rfl
noncomputable def E130 : Env := mkEnv C tab54 [0, 1, 2, 3, 4, 5, 7] 34 (fun (k : Nat) => bif k == 1000004 then some 135 else none)
  { hx := fun (x x_1 : Nat) => none, bx := fun (s : Nat) => Nat.testBit 0 s, kids := fun (x : Nat) => [] }
  [(ty9, Mode.ro), (ty5, Mode.ro), (ty5, Mode.ro)]
noncomputable def K130 := endK C [(ty9, Mode.ro), (ty5, Mode.ro), (ty5, Mode.ro)] [(ty4, 0)] [RV.tmp 6]
noncomputable def L130_4 (x0 : ByteArray) (x1 : Int) (x2 : Int) (x7 : Int) : Option ((Bool × PUnit) × PUnit) := loopAt E130 [1, 1, 0, 1, 0] (Try.f130.body.getD .skip) K130 [V.d none 0 ty9 x0, V.d none 0 ty5 x1, V.d none 0 ty5 x2, V.dead, V.dead, V.dead, V.dead,
  V.d none 0 (Ty.int IntKind.i64) x7, V.dead, V.dead, V.dead, V.dead, V.dead, V.dead, V.dead, V.dead, V.dead, V.dead,
  V.dead, V.dead, V.dead, V.dead, V.dead, V.dead, V.dead, V.dead, V.dead, V.dead, V.dead, V.dead, V.dead, V.dead,
  V.dead, V.dead]
theorem L130_4_eq (x0 : ByteArray) (x1 : Int) (x2 : Int) (x7 : Int) : L130_4 x0 x1 x2 x7 =
  bif decide (x7 < (↑x0.size : Int)) then
  (getB x0 x7).bind fun (y : Int) =>
    bif decide (y < x1) then some ((false, ()), ())
    else
      (getB x0 x7).bind fun (y : Int) =>
        bif decide (y > x2) then some ((false, ()), ()) else L130_4 x0 x1 x2 (IntKind.i64.wrap (x7 + 1))
else some ((true, ()), ()) := (loopAt_eq _ _ _ _ _).trans (by kernel_rfl)
noncomputable def S130 (a0 : ByteArray) (a1 : Int) (a2 : Int) : Option ((Bool × PUnit) × PUnit) := F130.sem (a0, a1, a2, ())
theorem S130_eq (a0 : ByteArray) (a1 : Int) (a2 : Int) : S130 a0 a1 a2 =
  bif decide ((↑a0.size : Int) < 1) then some ((false, ()), ())
else bif decide ((↑a0.size : Int) > 6) then some ((false, ()), ()) else L130_4 a0 a1 a2 0 := by kernel_rfl
noncomputable def E137 : Env := mkEnv C tab130 [0, 1] 5 (fun (x : Nat) => none)
  { hx := fun (x x_1 : Nat) => none, bx := fun (s : Nat) => Nat.testBit 0 s, kids := fun (x : Nat) => [] }
  [(ty9, Mode.ro)]
noncomputable def K137 := endK C [(ty9, Mode.ro)] [(ty4, 0)] [RV.tmp 2]
noncomputable def S137 (a0 : ByteArray) : Option ((Bool × PUnit) × PUnit) := F137.sem (a0, ())
theorem S137_eq (a0 : ByteArray) : S137 a0 =
  (S130 a0 65 90).bind fun (y : (Bool × PUnit) × PUnit) => some ((y.fst.fst, ()), ()) := by kernel_rfl
noncomputable def E100 : Env := mkEnv C tab137 [0, 1] 5 (fun (x : Nat) => none)
  { hx := fun (x x_1 : Nat) => none, bx := fun (s : Nat) => Nat.testBit 0 s, kids := fun (x : Nat) => [] }
  [(ty9, Mode.ro)]
noncomputable def K100 := endK C [(ty9, Mode.ro)] [(ty4, 0)] [RV.tmp 2]
noncomputable def S100 (a0 : ByteArray) : Option ((Bool × PUnit) × PUnit) := F100.sem (a0, ())
theorem S100_eq (a0 : ByteArray) : S100 a0 =
  (S130 a0 97 122).bind fun (y : (Bool × PUnit) × PUnit) => some ((y.fst.fst, ()), ()) := by kernel_rfl
noncomputable def E129 : Env := mkEnv C tab100 [0, 1, 3, 4, 5, 10, 15, 20, 25, 26, 30, 32, 37, 43, 44, 46] 51
  (fun (k : Nat) =>
    bif k == 1 then some 6
    else bif k == 3 then some 6 else bif k == 5 then some 503316486 else bif k == 1000004 then some 503316482 else none)
  { hx := fun (x x_1 : Nat) => none, bx := fun (s : Nat) => Nat.testBit 18 s,
    kids := fun (r : Nat) => bif r == 1 then [21, 26, 30, 31] else bif r == 4 then [38] else [] }
  [(ty141, Mode.ro)]
noncomputable def K129 := endK C [(ty141, Mode.ro)] [(ty4, 0)] [RV.tmp 2]
noncomputable def L129_4 (x1 : ByteArray × Int × List (ByteArray × Int × List (List Int × Int × Bool))) (x26 : List (ByteArray × Int × List (List Int × Int × Bool))) (x27 : Int) (x28 : Int) : Option ((Bool × PUnit) × PUnit) := loopAt E129 [1, 1, 0, 1, 0] (Try.f129.body.getD .skip) K129 [V.dead, V.box none 0 ty141 x1, V.dead, V.dead, V.dead, V.dead, V.dead, V.dead, V.dead, V.dead, V.dead, V.dead, V.dead,
  V.dead, V.dead, V.dead, V.dead, V.dead, V.dead, V.dead, V.dead, V.dead, V.dead, V.dead, V.dead,
  V.ptr 1 [St.fld 2 (ty9.sz + (ty3.sz + 0))] ty139, V.d none 0 (Ty.slice 169 ty169) x26,
  V.d none 0 (Ty.int IntKind.i64) x27, V.d none 0 (Ty.int IntKind.i64) x28, V.dead, V.dead, V.dead, V.dead, V.dead,
  V.dead, V.dead, V.dead, V.dead, V.dead, V.dead, V.dead, V.dead, V.dead, V.dead, V.dead, V.dead, V.dead, V.dead,
  V.dead, V.dead, V.dead]
theorem L129_4_eq (x1 : ByteArray × Int × List (ByteArray × Int × List (List Int × Int × Bool))) (x26 : List (ByteArray × Int × List (List Int × Int × Bool))) (x27 : Int) (x28 : Int) : L129_4 x1 x26 x27 x28 =
  bif decide (x28 < x27) then
  (getI x26 x28).bind fun (y : ByteArray × Int × List (List Int × Int × Bool)) =>
    (S100 y.fst).bind fun (y_1 : (Bool × PUnit) × PUnit) =>
      bif !y_1.fst.fst then some ((false, ()), ())
      else
        (S76 y.snd).bind fun (y_2 : (Bool × PUnit) × PUnit) =>
          bif !y_2.fst.fst then some ((false, ()), ())
          else
            bif y.snd.fst != x1.snd.fst then some ((false, ()), ()) else L129_4 x1 x26 x27 (IntKind.i64.wrap (x28 + 1))
else some ((true, ()), ()) := (loopAt_eq _ _ _ _ _).trans (by kernel_rfl)
noncomputable def S129 (a0 : ByteArray × Int × List (ByteArray × Int × List (List Int × Int × Bool))) : Option ((Bool × PUnit) × PUnit) := F129.sem (a0, ())
theorem S129_eq (a0 : ByteArray × Int × List (ByteArray × Int × List (List Int × Int × Bool))) : S129 a0 =
  (S137 a0.fst).bind fun (y : (Bool × PUnit) × PUnit) =>
  bif !y.fst.fst then some ((false, ()), ())
  else
    bif decide (a0.snd.fst < 0) then some ((false, ()), ())
    else
      bif decide (a0.snd.fst > 4) then some ((false, ()), ())
      else
        bif decide ((↑(List.length a0.snd.snd) : Int) > 8) then some ((false, ()), ())
        else L129_4 a0 a0.snd.snd (↑(List.length a0.snd.snd) : Int) 0 := by kernel_rfl
noncomputable def E101 : Env := mkEnv C tab129 [0, 1, 2, 3, 5, 6, 7, 12, 14] 20
  (fun (k : Nat) => bif k == 1 then some 19 else bif k == 3 then some 915 else bif k == 1000002 then some 899 else none)
  { hx := fun (x x_1 : Nat) => none, bx := fun (s : Nat) => Nat.testBit 64 s,
    kids := fun (r : Nat) => bif r == 6 then [] else [] }
  [(ty84, Mode.ro), (ty9, Mode.ro)]
noncomputable def K101 := endK C [(ty84, Mode.ro), (ty9, Mode.ro)] [(ty3, 0)] [RV.tmp 4]
noncomputable def L101_2 (x0 : List (ByteArray × Int × List (ByteArray × Int × List (List Int × Int × Bool)))) (x1 : ByteArray) (x7 : List (ByteArray × Int × List (ByteArray × Int × List (List Int × Int × Bool)))) (x8 : Int) (x9 : Int) : Option ((Int × PUnit) × PUnit) := loopAt E101 [1, 0, 1, 0] (Try.f101.body.getD .skip) K101 [V.d none 0 ty84 x0, V.d none 0 ty9 x1, V.dead, V.dead, V.dead, V.dead, V.dead, V.d none 0 ty84 x7,
  V.d none 0 (Ty.int IntKind.i64) x8, V.d none 0 (Ty.int IntKind.i64) x9, V.dead, V.dead, V.dead, V.dead, V.dead,
  V.dead, V.dead, V.dead, V.dead, V.dead]
theorem L101_2_eq (x0 : List (ByteArray × Int × List (ByteArray × Int × List (List Int × Int × Bool)))) (x1 : ByteArray) (x7 : List (ByteArray × Int × List (ByteArray × Int × List (List Int × Int × Bool)))) (x8 : Int) (x9 : Int) : L101_2 x0 x1 x7 x8 x9 =
  bif decide (x9 < x8) then
  (getI x7 x9).bind fun (y : ByteArray × Int × List (ByteArray × Int × List (List Int × Int × Bool))) =>
    bif ByteArray.toList y.fst == x1.toList then some ((x9, ()), ()) else L101_2 x0 x1 x7 x8 (IntKind.i64.wrap (x9 + 1))
else some ((-1, ()), ()) := (loopAt_eq _ _ _ _ _).trans (by kernel_rfl)
noncomputable def S101 (a0 : List (ByteArray × Int × List (ByteArray × Int × List (List Int × Int × Bool)))) (a1 : ByteArray) : Option ((Int × PUnit) × PUnit) := F101.sem (a0, a1, ())
theorem S101_eq (a0 : List (ByteArray × Int × List (ByteArray × Int × List (List Int × Int × Bool)))) (a1 : ByteArray) : S101 a0 a1 =
  L101_2 a0 a1 a0 (↑a0.length : Int) 0 := by kernel_rfl
noncomputable def E99 : Env := mkEnv C tab101 [0, 1, 3, 4, 8, 13, 20] 27
  (fun (k : Nat) =>
    bif k == 1 then some 5
    else bif k == 3 then some 5 else bif k == 5 then some 1797 else bif k == 1000004 then some 1793 else none)
  { hx := fun (x x_1 : Nat) => none, bx := fun (s : Nat) => Nat.testBit 16 s,
    kids := fun (r : Nat) => bif r == 4 then [15] else [] }
  [(ty84, Mode.ro)]
noncomputable def K99 := endK C [(ty84, Mode.ro)] [(ty4, 0)] [RV.tmp 2]
noncomputable def L99_4 (x0 : List (ByteArray × Int × List (ByteArray × Int × List (List Int × Int × Bool)))) (x8 : List (ByteArray × Int × List (ByteArray × Int × List (List Int × Int × Bool)))) (x9 : Int) (x10 : Int) : Option ((Bool × PUnit) × PUnit) := loopAt E99 [1, 1, 0, 1, 0] (Try.f99.body.getD .skip) K99 [V.d none 0 ty84 x0, V.dead, V.dead, V.dead, V.dead, V.dead, V.dead, V.dead, V.d none 0 ty84 x8,
  V.d none 0 (Ty.int IntKind.i64) x9, V.d none 0 (Ty.int IntKind.i64) x10, V.dead, V.dead, V.dead, V.dead, V.dead,
  V.dead, V.dead, V.dead, V.dead, V.dead, V.dead, V.dead, V.dead, V.dead, V.dead, V.dead]
theorem L99_4_eq (x0 : List (ByteArray × Int × List (ByteArray × Int × List (List Int × Int × Bool)))) (x8 : List (ByteArray × Int × List (ByteArray × Int × List (List Int × Int × Bool)))) (x9 : Int) (x10 : Int) : L99_4 x0 x8 x9 x10 =
  bif decide (x10 < x9) then
  (getI x8 x10).bind fun (y : ByteArray × Int × List (ByteArray × Int × List (List Int × Int × Bool))) =>
    (S129 y).bind fun (y_1 : (Bool × PUnit) × PUnit) =>
      bif !y_1.fst.fst then some ((false, ()), ())
      else
        (S101 x0 y.fst).bind fun (y : (Int × PUnit) × PUnit) =>
          bif y.fst.fst != x10 then some ((false, ()), ()) else L99_4 x0 x8 x9 (IntKind.i64.wrap (x10 + 1))
else some ((true, ()), ()) := (loopAt_eq _ _ _ _ _).trans (by kernel_rfl)
noncomputable def S99 (a0 : List (ByteArray × Int × List (ByteArray × Int × List (List Int × Int × Bool)))) : Option ((Bool × PUnit) × PUnit) := F99.sem (a0, ())
theorem S99_eq (a0 : List (ByteArray × Int × List (ByteArray × Int × List (List Int × Int × Bool)))) : S99 a0 =
  bif decide ((↑a0.length : Int) > 6) then some ((false, ()), ()) else L99_4 a0 a0 (↑a0.length : Int) 0 := by kernel_rfl
noncomputable def E57 : Env := mkEnv C tab99
  [0, 1, 2, 3, 5, 6, 7, 12, 17, 22, 28, 33, 36, 41, 46, 47, 49, 51, 52, 56, 59, 61, 62, 66, 67, 72, 73, 78, 79, 83] 89
  (fun (k : Nat) =>
    bif k == 7 then some 57
    else
      bif k == 8 then some 57
      else bif k == 10 then some 24 else bif k == 1000011 then some 4533471823554859405148168 else none)
  { hx := fun (x x_1 : Nat) => none, bx := fun (s : Nat) => Nat.testBit 8 s,
    kids := fun (r : Nat) => bif r == 3 then [37, 42, 57, 74, 79, 83] else [] }
  [(ty84, Mode.ro), (ty87, Mode.ro)]
noncomputable def K57 := endK C [(ty84, Mode.ro), (ty87, Mode.ro)] [(ty4, 0)] [RV.tmp 4]
noncomputable def L57_11 (x3 : Int × ByteArray × ByteArray × (Int × List (List Int × Int × Bool)) × List Int) (x79 : List Int) (x80 : Int) (x81 : Int) : Option ((Bool × PUnit) × PUnit) := loopAt E57 [1, 1, 1, 1, 1, 1, 0, 1, 0] (Try.f57.body.getD .skip) K57 [V.dead, V.dead, V.dead, V.box none 0 ty87 x3, V.dead, V.dead, V.dead, V.dead, V.dead, V.dead, V.dead, V.dead, V.dead,
  V.dead, V.dead, V.dead, V.dead, V.dead, V.dead, V.dead, V.dead, V.dead, V.dead, V.dead, V.dead, V.dead, V.dead,
  V.dead, V.dead, V.dead, V.dead, V.dead, V.dead, V.dead, V.dead, V.dead, V.dead, V.dead, V.dead, V.dead, V.dead,
  V.dead, V.dead, V.dead, V.dead, V.dead, V.dead, V.dead, V.dead, V.dead, V.dead, V.dead, V.dead, V.dead, V.dead,
  V.dead, V.dead, V.dead, V.dead, V.dead, V.dead, V.dead, V.dead, V.dead, V.dead, V.dead, V.dead, V.dead, V.dead,
  V.dead, V.dead, V.dead, V.dead, V.dead, V.dead, V.dead, V.dead, V.dead,
  V.ptr 3 [St.fld 4 (ty3.sz + (ty9.sz + (ty9.sz + (ty49.sz + 0))))] ty45, V.d none 0 (Ty.slice 3 ty3) x79,
  V.d none 0 (Ty.int IntKind.i64) x80, V.d none 0 (Ty.int IntKind.i64) x81, V.dead, V.dead, V.dead, V.dead, V.dead,
  V.dead, V.dead]
theorem L57_11_eq (x3 : Int × ByteArray × ByteArray × (Int × List (List Int × Int × Bool)) × List Int) (x79 : List Int) (x80 : Int) (x81 : Int) : L57_11 x3 x79 x80 x81 =
  bif decide (x81 < x80) then
  (getI x79 x81).bind fun (y : Int) =>
    (S77 y).bind fun (y : (Bool × PUnit) × PUnit) =>
      bif !y.fst.fst then some ((false, ()), ()) else L57_11 x3 x79 x80 (IntKind.i64.wrap (x81 + 1))
else some ((true, ()), ()) := (loopAt_eq _ _ _ _ _).trans (by kernel_rfl)
noncomputable def S57 (a0 : List (ByteArray × Int × List (ByteArray × Int × List (List Int × Int × Bool)))) (a1 : Int × ByteArray × ByteArray × (Int × List (List Int × Int × Bool)) × List Int) : Option ((Bool × PUnit) × PUnit) := F57.sem (a0, a1, ())
theorem S57_eq (a0 : List (ByteArray × Int × List (ByteArray × Int × List (List Int × Int × Bool)))) (a1 : Int × ByteArray × ByteArray × (Int × List (List Int × Int × Bool)) × List Int) : S57 a0 a1 =
  (S99 a0).bind fun (y : (Bool × PUnit) × PUnit) =>
  bif !y.fst.fst then some ((false, ()), ())
  else
    bif decide (a1.fst < 0) then some ((false, ()), ())
    else
      bif decide (a1.fst > 3) then some ((false, ()), ())
      else
        (S100 a1.snd.snd.fst).bind fun (y : (Bool × PUnit) × PUnit) =>
          bif !y.fst.fst then some ((false, ()), ())
          else
            (S101 a0 a1.snd.fst).bind fun (y : (Int × PUnit) × PUnit) =>
              bif decide (y.fst.fst < 0) then some ((false, ()), ())
              else
                bif a1.fst != 3 then
                  bif (↑(List.length a1.snd.snd.snd.snd) : Int) == 0 then
                    (S76 a1.snd.snd.snd.fst).bind fun (y_1 : (Bool × PUnit) × PUnit) =>
                      bif y_1.fst.fst then
                        (getI a0 y.fst.fst).bind
                          fun (y : ByteArray × Int × List (ByteArray × Int × List (List Int × Int × Bool))) =>
                          some ((a1.snd.snd.snd.fst.fst == y.snd.fst, ()), ())
                      else some ((false, ()), ())
                  else some ((false, ()), ())
                else
                  (getI a0 y.fst.fst).bind
                    fun (y : ByteArray × Int × List (ByteArray × Int × List (List Int × Int × Bool))) =>
                    bif (↑(List.length a1.snd.snd.snd.snd) : Int) != y.snd.fst then some ((false, ()), ())
                    else
                      bif a1.snd.snd.snd.fst.fst != 0 then some ((false, ()), ())
                      else
                        bif (↑(List.length a1.snd.snd.snd.fst.snd) : Int) != 0 then some ((false, ()), ())
                        else L57_11 a1 a1.snd.snd.snd.snd (↑(List.length a1.snd.snd.snd.snd) : Int) 0 := by kernel_rfl
noncomputable def E138 : Env := mkEnv C tab57 [0, 1, 2, 3, 5, 7, 10, 12] 16 (fun (x : Nat) => none)
  { hx := fun (x x_1 : Nat) => none, bx := fun (s : Nat) => Nat.testBit 12 s,
    kids := fun (r : Nat) => bif r == 2 then [11] else bif r == 3 then [13] else [] }
  [(ty169, Mode.ro), (ty169, Mode.ro)]
noncomputable def K138 := endK C [(ty169, Mode.ro), (ty169, Mode.ro)] [(ty4, 0)] [RV.tmp 4]
noncomputable def S138 (a0 : ByteArray × Int × List (List Int × Int × Bool)) (a1 : ByteArray × Int × List (List Int × Int × Bool)) : Option ((Bool × PUnit) × PUnit) := F138.sem (a0, a1, ())
theorem S138_eq (a0 : ByteArray × Int × List (List Int × Int × Bool)) (a1 : ByteArray × Int × List (List Int × Int × Bool)) : S138 a0 a1 =
  bif !ByteArray.toList a0.fst == ByteArray.toList a1.fst then some ((false, ()), ())
else
  (S33 a0.snd a1.snd).bind fun (y : (Bool × PUnit) × PUnit) =>
    bif !y.fst.fst then some ((false, ()), ()) else some ((true, ()), ()) := by kernel_rfl
noncomputable def E131 : Env := mkEnv C tab138 [0, 1, 2, 3, 5, 17, 19, 21, 23] 27 (fun (k : Nat) => bif k == 1000004 then some 35 else none)
  { hx := fun (x x_1 : Nat) => none, bx := fun (s : Nat) => Nat.testBit 0 s, kids := fun (x : Nat) => [] }
  [(ty139, Mode.ro), (ty139, Mode.ro)]
noncomputable def K131 := endK C [(ty139, Mode.ro), (ty139, Mode.ro)] [(ty4, 0)] [RV.tmp 4]
noncomputable def L131_4 (x0 : List (ByteArray × Int × List (List Int × Int × Bool))) (x1 : List (ByteArray × Int × List (List Int × Int × Bool))) (x5 : Int) : Option ((Bool × PUnit) × PUnit) := loopAt E131 [1, 1, 0, 1, 0] (Try.f131.body.getD .skip) K131 [V.d none 0 ty139 x0, V.d none 0 ty139 x1, V.dead, V.dead, V.dead, V.d none 0 (Ty.int IntKind.i64) x5, V.dead, V.dead,
  V.dead, V.dead, V.dead, V.dead, V.dead, V.dead, V.dead, V.dead, V.dead, V.dead, V.dead, V.dead, V.dead, V.dead,
  V.dead, V.dead, V.dead, V.dead, V.dead]
theorem L131_4_eq (x0 : List (ByteArray × Int × List (List Int × Int × Bool))) (x1 : List (ByteArray × Int × List (List Int × Int × Bool))) (x5 : Int) : L131_4 x0 x1 x5 =
  bif decide (x5 < (↑x0.length : Int)) then
  (getI x0 x5).bind fun (y : ByteArray × Int × List (List Int × Int × Bool)) =>
    (getI x1 x5).bind fun (y_1 : ByteArray × Int × List (List Int × Int × Bool)) =>
      (S138 y y_1).bind fun (y : (Bool × PUnit) × PUnit) =>
        bif !y.fst.fst then some ((false, ()), ()) else L131_4 x0 x1 (IntKind.i64.wrap (x5 + 1))
else some ((true, ()), ()) := (loopAt_eq _ _ _ _ _).trans (by kernel_rfl)
noncomputable def S131 (a0 : List (ByteArray × Int × List (List Int × Int × Bool))) (a1 : List (ByteArray × Int × List (List Int × Int × Bool))) : Option ((Bool × PUnit) × PUnit) := F131.sem (a0, a1, ())
theorem S131_eq (a0 : List (ByteArray × Int × List (List Int × Int × Bool))) (a1 : List (ByteArray × Int × List (List Int × Int × Bool))) : S131 a0 a1 =
  bif (↑a0.length : Int) != (↑a1.length : Int) then some ((false, ()), ()) else L131_4 a0 a1 0 := by kernel_rfl
noncomputable def E102 : Env := mkEnv C tab131 [0, 1, 2, 3, 5, 7, 10, 12, 15, 17] 21 (fun (x : Nat) => none)
  { hx := fun (x x_1 : Nat) => none, bx := fun (s : Nat) => Nat.testBit 12 s,
    kids := fun (r : Nat) => bif r == 2 then [16] else bif r == 3 then [18] else [] }
  [(ty141, Mode.ro), (ty141, Mode.ro)]
noncomputable def K102 := endK C [(ty141, Mode.ro), (ty141, Mode.ro)] [(ty4, 0)] [RV.tmp 4]
noncomputable def S102 (a0 : ByteArray × Int × List (ByteArray × Int × List (List Int × Int × Bool))) (a1 : ByteArray × Int × List (ByteArray × Int × List (List Int × Int × Bool))) : Option ((Bool × PUnit) × PUnit) := F102.sem (a0, a1, ())
theorem S102_eq (a0 : ByteArray × Int × List (ByteArray × Int × List (List Int × Int × Bool))) (a1 : ByteArray × Int × List (ByteArray × Int × List (List Int × Int × Bool))) : S102 a0 a1 =
  bif !ByteArray.toList a0.fst == ByteArray.toList a1.fst then some ((false, ()), ())
else
  bif a0.snd.fst != a1.snd.fst then some ((false, ()), ())
  else
    (S131 a0.snd.snd a1.snd.snd).bind fun (y : (Bool × PUnit) × PUnit) =>
      bif !y.fst.fst then some ((false, ()), ()) else some ((true, ()), ()) := by kernel_rfl
noncomputable def E58 : Env := mkEnv C tab102 [0, 1, 2, 3, 5, 17, 19, 21, 23] 27 (fun (k : Nat) => bif k == 1000004 then some 35 else none)
  { hx := fun (x x_1 : Nat) => none, bx := fun (s : Nat) => Nat.testBit 0 s, kids := fun (x : Nat) => [] }
  [(ty84, Mode.ro), (ty84, Mode.ro)]
noncomputable def K58 := endK C [(ty84, Mode.ro), (ty84, Mode.ro)] [(ty4, 0)] [RV.tmp 4]
noncomputable def L58_4 (x0 : List (ByteArray × Int × List (ByteArray × Int × List (List Int × Int × Bool)))) (x1 : List (ByteArray × Int × List (ByteArray × Int × List (List Int × Int × Bool)))) (x5 : Int) : Option ((Bool × PUnit) × PUnit) := loopAt E58 [1, 1, 0, 1, 0] (Try.f58.body.getD .skip) K58 [V.d none 0 ty84 x0, V.d none 0 ty84 x1, V.dead, V.dead, V.dead, V.d none 0 (Ty.int IntKind.i64) x5, V.dead, V.dead,
  V.dead, V.dead, V.dead, V.dead, V.dead, V.dead, V.dead, V.dead, V.dead, V.dead, V.dead, V.dead, V.dead, V.dead,
  V.dead, V.dead, V.dead, V.dead, V.dead]
theorem L58_4_eq (x0 : List (ByteArray × Int × List (ByteArray × Int × List (List Int × Int × Bool)))) (x1 : List (ByteArray × Int × List (ByteArray × Int × List (List Int × Int × Bool)))) (x5 : Int) : L58_4 x0 x1 x5 =
  bif decide (x5 < (↑x0.length : Int)) then
  (getI x0 x5).bind fun (y : ByteArray × Int × List (ByteArray × Int × List (List Int × Int × Bool))) =>
    (getI x1 x5).bind fun (y_1 : ByteArray × Int × List (ByteArray × Int × List (List Int × Int × Bool))) =>
      (S102 y y_1).bind fun (y : (Bool × PUnit) × PUnit) =>
        bif !y.fst.fst then some ((false, ()), ()) else L58_4 x0 x1 (IntKind.i64.wrap (x5 + 1))
else some ((true, ()), ()) := (loopAt_eq _ _ _ _ _).trans (by kernel_rfl)
noncomputable def S58 (a0 : List (ByteArray × Int × List (ByteArray × Int × List (List Int × Int × Bool)))) (a1 : List (ByteArray × Int × List (ByteArray × Int × List (List Int × Int × Bool)))) : Option ((Bool × PUnit) × PUnit) := F58.sem (a0, a1, ())
theorem S58_eq (a0 : List (ByteArray × Int × List (ByteArray × Int × List (List Int × Int × Bool)))) (a1 : List (ByteArray × Int × List (ByteArray × Int × List (List Int × Int × Bool)))) : S58 a0 a1 =
  bif (↑a0.length : Int) != (↑a1.length : Int) then some ((false, ()), ()) else L58_4 a0 a1 0 := by kernel_rfl
noncomputable def E59 : Env := mkEnv C tab58 [0, 1, 2, 3, 5, 7, 10, 12, 15, 17, 20, 22, 26, 28] 32 (fun (x : Nat) => none)
  { hx := fun (x x_1 : Nat) => none, bx := fun (s : Nat) => Nat.testBit 12 s,
    kids := fun (r : Nat) => bif r == 2 then [21, 27] else bif r == 3 then [23, 29] else [] }
  [(ty87, Mode.ro), (ty87, Mode.ro)]
noncomputable def K59 := endK C [(ty87, Mode.ro), (ty87, Mode.ro)] [(ty4, 0)] [RV.tmp 4]
noncomputable def S59 (a0 : Int × ByteArray × ByteArray × (Int × List (List Int × Int × Bool)) × List Int) (a1 : Int × ByteArray × ByteArray × (Int × List (List Int × Int × Bool)) × List Int) : Option ((Bool × PUnit) × PUnit) := F59.sem (a0, a1, ())
theorem S59_eq (a0 : Int × ByteArray × ByteArray × (Int × List (List Int × Int × Bool)) × List Int) (a1 : Int × ByteArray × ByteArray × (Int × List (List Int × Int × Bool)) × List Int) : S59 a0 a1 =
  bif a0.fst != a1.fst then some ((false, ()), ())
else
  bif !ByteArray.toList a0.snd.fst == ByteArray.toList a1.snd.fst then some ((false, ()), ())
  else
    bif !ByteArray.toList a0.snd.snd.fst == ByteArray.toList a1.snd.snd.fst then some ((false, ()), ())
    else
      (S33 a0.snd.snd.snd.fst a1.snd.snd.snd.fst).bind fun (y : (Bool × PUnit) × PUnit) =>
        bif !y.fst.fst then some ((false, ()), ())
        else
          (S34 a0.snd.snd.snd.snd a1.snd.snd.snd.snd).bind fun (y : (Bool × PUnit) × PUnit) =>
            bif !y.fst.fst then some ((false, ()), ()) else some ((true, ()), ()) := by kernel_rfl
noncomputable def E12 : Env := mkEnv C tab59 [0, 1, 2, 3, 5, 6, 7, 8, 9] 45 (fun (k : Nat) => bif k == 10 then some 217 else none)
  { hx := fun (x x_1 : Nat) => none, bx := fun (s : Nat) => Nat.testBit 264 s,
    kids := fun (r : Nat) => bif r == 3 then [15, 22, 27, 41] else bif r == 8 then [30, 40] else [] }
  [(ty78, Mode.ro), (ty80, Mode.ro)]
noncomputable def K12 := endK C [(ty78, Mode.ro), (ty80, Mode.ro)] [(ty4, 0)] [RV.tmp 4]
noncomputable def S12 (a0 : List (ByteArray × Int × List (ByteArray × Int × List (List Int × Int × Bool)))) (a1 : Int × ByteArray × ByteArray × (Int × List (List Int × Int × Bool)) × List Int) : Option ((Bool × PUnit) × PUnit) := F12.sem (a0, a1, ())
theorem S12_eq (a0 : List (ByteArray × Int × List (ByteArray × Int × List (List Int × Int × Bool)))) (a1 : Int × ByteArray × ByteArray × (Int × List (List Int × Int × Bool)) × List Int) : S12 a0 a1 =
  (S52 a0 1048576).bind fun (y : (Int × PUnit) × PUnit) =>
  bif decide (y.fst.fst < 0) then some ((true, ()), ())
  else
    (S53 a1 y.fst.fst).bind fun (y : (Int × PUnit) × PUnit) =>
      bif decide (y.fst.fst < 0) then some ((true, ()), ())
      else
        (S55 a0).bind
          fun (y : (List (ByteArray × Int × List (ByteArray × Int × List (List Int × Int × Bool))) × PUnit) × PUnit) =>
          (S56 a1).bind
            fun
              (y_1 :
                ((Int × ByteArray × ByteArray × (Int × List (List Int × Int × Bool)) × List Int) × PUnit) × PUnit) =>
            (S54 y.fst.fst y_1.fst.fst).bind fun (y : (Bool × PUnit) × PUnit) =>
              (S55 a0).bind
                fun
                  (y_2 :
                    (List (ByteArray × Int × List (ByteArray × Int × List (List Int × Int × Bool))) × PUnit) × PUnit) =>
                (S56 a1).bind
                  fun
                    (y_3 :
                      ((Int × ByteArray × ByteArray × (Int × List (List Int × Int × Bool)) × List Int) × PUnit) ×
                        PUnit) =>
                  (S57 y_2.fst.fst y_3.fst.fst).bind fun (y_4 : (Bool × PUnit) × PUnit) =>
                    bif !y_4.fst.fst == y.fst.fst then some ((false, ()), ())
                    else
                      (S55 a0).bind
                        fun
                          (y :
                            (List (ByteArray × Int × List (ByteArray × Int × List (List Int × Int × Bool))) × PUnit) ×
                              PUnit) =>
                        (S58 y_2.fst.fst y.fst.fst).bind fun (y : (Bool × PUnit) × PUnit) =>
                          bif !y.fst.fst then some ((false, ()), ())
                          else
                            (S56 a1).bind
                              fun
                                (y :
                                  ((Int × ByteArray × ByteArray × (Int × List (List Int × Int × Bool)) × List Int) ×
                                      PUnit) ×
                                    PUnit) =>
                              (S59 y_3.fst.fst y.fst.fst).bind fun (y : (Bool × PUnit) × PUnit) =>
                                bif !y.fst.fst then some ((false, ()), ()) else some ((true, ()), ()) := by kernel_rfl
end Go.Proofs.Ytdfcejijcnhcaaa.D.It
