/- A part of the proof: It3v. No conditions. -/
import Derived.Test.YtkanidldnnfloaaGreatPIt2v
import Derived.Test.YtkanidldnnfloaaGreatPG7
import Derived.Test.YtkanidldnnfloaaGreatChecked
import Derived.KernelRfl
set_option linter.unusedVariables false
set_option maxRecDepth 100000
namespace Go.Proofs.YtkanidldnnfloaaGreat.P.It
open Am
noncomputable def Ew_szIntS : Env := mkEnv C tab0 [0, 1, 2, 3] 12 (fun x => none) (Hints.mk (fun x x_1 => none) (fun s => Nat.testBit 0 s) fun x => [])
 [(ty59, Mode.ro), (ty3, Mode.ro)]
noncomputable def Kw_szIntS := endK C [(ty59, Mode.ro), (ty3, Mode.ro)] [(ty3, 0)] [RV.tmp 4]
noncomputable def Sw_szIntS (a0 : List Int) (a1 : Int) : Option ((Int × PUnit) × PUnit) := Fw_szIntS.sem (a0, a1, ())
theorem Sw_szIntS_eq (a0 : List Int) (a1 : Int) : Sw_szIntS a0 a1 =
  bif decide (IntKind.i64.wrap (a1 - (↑a0.length : Int)) < 0) then some ((-1, ()), ())
else some ((IntKind.i64.wrap (a1 - (↑a0.length : Int)), ()), ()) := by kernel_rfl
noncomputable def Ew_szAtom : Env := mkEnv C tab_w_szIntS [0, 1, 2, 3, 5] 12 (fun x => none)
 (Hints.mk (fun x x_1 => none) (fun s => Nat.testBit 4 s) fun r => bif r == 2 then [6] else [])
 [(ty161, Mode.ro), (ty3, Mode.ro)]
noncomputable def Kw_szAtom := endK C [(ty161, Mode.ro), (ty3, Mode.ro)] [(ty3, 0)] [RV.tmp 4]
noncomputable def Sw_szAtom (a0 : Atm) (a1 : Int) : Option ((Int × PUnit) × PUnit) := Fw_szAtom.sem (a0, a1, ())
theorem Sw_szAtom_eq (a0 : Atm) (a1 : Int) : Sw_szAtom a0 a1 =
  (Sw_szIntS a0.fst a1).bind fun y => bif decide (y.fst.fst < 0) then some ((-1, ()), ()) else some ((y.fst.fst, ()), ()) := by kernel_rfl
noncomputable def Ew_szAtomS : Env := mkEnv C tab_w_szAtom [0, 1, 2, 3, 5, 18, 20] 27 (fun k => bif k == 1000005 then some 35 else none)
 (Hints.mk (fun x x_1 => none) (fun s => Nat.testBit 0 s) fun x => []) [(ty165, Mode.ro), (ty3, Mode.ro)]
noncomputable def Kw_szAtomS := endK C [(ty165, Mode.ro), (ty3, Mode.ro)] [(ty3, 0)] [RV.tmp 4]
noncomputable def Lw_szAtomS_5 (x0 : List Atm) (x1 : Int) (x5 : Int) : Option ((Int × PUnit) × PUnit) := loopAt Ew_szAtomS [1, 1, 1, 0, 1, 0] (Tryz.f184.body.getD .skip) Kw_szAtomS [V.d none 0 ty165 x0, V.d none 0 (Ty.int IntKind.i64) x1, V.dead, V.dead, V.dead, V.d none 0 (Ty.int IntKind.i64) x5,
 V.dead, V.dead, V.dead, V.dead, V.dead, V.dead, V.dead, V.dead, V.dead, V.dead, V.dead, V.dead, V.dead, V.dead, V.dead,
 V.dead, V.dead, V.dead, V.dead, V.dead, V.dead]
noncomputable def Sw_szAtomS (a0 : List Atm) (a1 : Int) : Option ((Int × PUnit) × PUnit) := Fw_szAtomS.sem (a0, a1, ())
def jw_szAtomS : List (Nat × List Nat) := [(1000005, [1, 1, 1, 0, 1, 0])]
theorem jw_szAtomS_ok : okB jw_szAtomS (Tryz.f184.body.getD .skip) [] = true := by kernel_rfl
theorem Lw_szAtomS_5_eq (x0 : List Atm) (x1 : Int) (x5 : Int) : Lw_szAtomS_5 x0 x1 x5 =
  bif decide (x5 < (↑x0.length : Int)) then
 (getI x0 x5).bind fun y =>
  (Sw_szAtom y x1).bind fun y =>
   bif decide (y.fst.fst < 0) then some ((-1, ()), ()) else Lw_szAtomS_5 x0 y.fst.fst (IntKind.i64.wrap (x5 + 1))
else some ((x1, ()), ()) := (turn_eq jw_szAtomS_ok [1, 1, 1, 0, 1, 0] (by kernel_rfl) _).trans (by kernel_rfl)
theorem Sw_szAtomS_eq (a0 : List Atm) (a1 : Int) : Sw_szAtomS a0 a1 =
  bif decide (IntKind.i64.wrap (a1 - (↑a0.length : Int)) < 0) then some ((-1, ()), ())
else Lw_szAtomS_5 a0 (IntKind.i64.wrap (a1 - (↑a0.length : Int))) 0 := (Eq.trans (by kernel_rfl : Sw_szAtomS a0 a1 = denK Ew_szAtomS (Tryz.f184.body.getD .skip) Kw_szAtomS (slots0 27 [(ty165, Mode.ro), (ty3, Mode.ro)] (a0, a1, ()))) (all_eq jw_szAtomS_ok _)).trans (by kernel_rfl)
noncomputable def Ew_szCell : Env := mkEnv C tab_w_szAtomS [0, 1, 2, 3, 5] 12 (fun x => none)
 (Hints.mk (fun x x_1 => none) (fun s => Nat.testBit 4 s) fun r => bif r == 2 then [6] else [])
 [(ty167, Mode.ro), (ty3, Mode.ro)]
noncomputable def Kw_szCell := endK C [(ty167, Mode.ro), (ty3, Mode.ro)] [(ty3, 0)] [RV.tmp 4]
noncomputable def Sw_szCell (a0 : Int × List Atm) (a1 : Int) : Option ((Int × PUnit) × PUnit) := Fw_szCell.sem (a0, a1, ())
theorem Sw_szCell_eq (a0 : Int × List Atm) (a1 : Int) : Sw_szCell a0 a1 =
  (Sw_szAtomS a0.snd a1).bind fun y => bif decide (y.fst.fst < 0) then some ((-1, ()), ()) else some ((y.fst.fst, ()), ()) := by kernel_rfl
noncomputable def Ew_szRow : Env := mkEnv C tab_w_szCell [0, 1, 2, 3, 6, 12] 19 (fun k => bif k == 1 then some 22 else none)
 (Hints.mk (fun x x_1 => none) (fun s => Nat.testBit 4 s) fun r => bif r == 2 then [13] else [])
 [(ty204, Mode.ro), (ty3, Mode.ro)]
noncomputable def Kw_szRow := endK C [(ty204, Mode.ro), (ty3, Mode.ro)] [(ty3, 0)] [RV.tmp 4]
noncomputable def Sw_szRow (a0 : ByteArray × Int × List Atm) (a1 : Int) : Option ((Int × PUnit) × PUnit) := Fw_szRow.sem (a0, a1, ())
theorem Sw_szRow_eq (a0 : ByteArray × Int × List Atm) (a1 : Int) : Sw_szRow a0 a1 =
  bif decide (IntKind.i64.wrap (a1 - (↑(ByteArray.size a0.fst) : Int)) < 0) then some ((-1, ()), ())
else
 (Sw_szCell a0.snd (IntKind.i64.wrap (a1 - (↑(ByteArray.size a0.fst) : Int)))).bind fun y =>
  bif decide (y.fst.fst < 0) then some ((-1, ()), ()) else some ((y.fst.fst, ()), ()) := by kernel_rfl
noncomputable def Ew_szRowS : Env := mkEnv C tab_w_szRow [0, 1, 2, 3, 5, 18, 20] 27 (fun k => bif k == 1000005 then some 35 else none)
 (Hints.mk (fun x x_1 => none) (fun s => Nat.testBit 0 s) fun x => []) [(ty108, Mode.ro), (ty3, Mode.ro)]
noncomputable def Kw_szRowS := endK C [(ty108, Mode.ro), (ty3, Mode.ro)] [(ty3, 0)] [RV.tmp 4]
noncomputable def Lw_szRowS_5 (x0 : List Rw) (x1 : Int) (x5 : Int) : Option ((Int × PUnit) × PUnit) := loopAt Ew_szRowS [1, 1, 1, 0, 1, 0] (Tryz.f107.body.getD .skip) Kw_szRowS [V.d none 0 ty108 x0, V.d none 0 (Ty.int IntKind.i64) x1, V.dead, V.dead, V.dead, V.d none 0 (Ty.int IntKind.i64) x5,
 V.dead, V.dead, V.dead, V.dead, V.dead, V.dead, V.dead, V.dead, V.dead, V.dead, V.dead, V.dead, V.dead, V.dead, V.dead,
 V.dead, V.dead, V.dead, V.dead, V.dead, V.dead]
noncomputable def Sw_szRowS (a0 : List Rw) (a1 : Int) : Option ((Int × PUnit) × PUnit) := Fw_szRowS.sem (a0, a1, ())
def jw_szRowS : List (Nat × List Nat) := [(1000005, [1, 1, 1, 0, 1, 0])]
theorem jw_szRowS_ok : okB jw_szRowS (Tryz.f107.body.getD .skip) [] = true := by kernel_rfl
theorem Lw_szRowS_5_eq (x0 : List Rw) (x1 : Int) (x5 : Int) : Lw_szRowS_5 x0 x1 x5 =
  bif decide (x5 < (↑x0.length : Int)) then
 (getI x0 x5).bind fun y =>
  (Sw_szRow y x1).bind fun y =>
   bif decide (y.fst.fst < 0) then some ((-1, ()), ()) else Lw_szRowS_5 x0 y.fst.fst (IntKind.i64.wrap (x5 + 1))
else some ((x1, ()), ()) := (turn_eq jw_szRowS_ok [1, 1, 1, 0, 1, 0] (by kernel_rfl) _).trans (by kernel_rfl)
theorem Sw_szRowS_eq (a0 : List Rw) (a1 : Int) : Sw_szRowS a0 a1 =
  bif decide (IntKind.i64.wrap (a1 - (↑a0.length : Int)) < 0) then some ((-1, ()), ())
else Lw_szRowS_5 a0 (IntKind.i64.wrap (a1 - (↑a0.length : Int))) 0 := (Eq.trans (by kernel_rfl : Sw_szRowS a0 a1 = denK Ew_szRowS (Tryz.f107.body.getD .skip) Kw_szRowS (slots0 27 [(ty108, Mode.ro), (ty3, Mode.ro)] (a0, a1, ()))) (all_eq jw_szRowS_ok _)).trans (by kernel_rfl)
noncomputable def Ew_szRelation : Env := mkEnv C tab_w_szRowS [0, 1, 2, 3, 6, 12] 19 (fun k => bif k == 1 then some 22 else none)
 (Hints.mk (fun x x_1 => none) (fun s => Nat.testBit 4 s) fun r => bif r == 2 then [13] else [])
 [(ty110, Mode.ro), (ty3, Mode.ro)]
noncomputable def Kw_szRelation := endK C [(ty110, Mode.ro), (ty3, Mode.ro)] [(ty3, 0)] [RV.tmp 4]
noncomputable def Sw_szRelation (a0 : ByteArray × Int × List Rw) (a1 : Int) : Option ((Int × PUnit) × PUnit) := Fw_szRelation.sem (a0, a1, ())
theorem Sw_szRelation_eq (a0 : ByteArray × Int × List Rw) (a1 : Int) : Sw_szRelation a0 a1 =
  bif decide (IntKind.i64.wrap (a1 - (↑(ByteArray.size a0.fst) : Int)) < 0) then some ((-1, ()), ())
else
 (Sw_szRowS a0.snd.snd (IntKind.i64.wrap (a1 - (↑(ByteArray.size a0.fst) : Int)))).bind fun y =>
  bif decide (y.fst.fst < 0) then some ((-1, ()), ()) else some ((y.fst.fst, ()), ()) := by kernel_rfl
noncomputable def Ew_szRelationS : Env := mkEnv C tab_w_szRelation [0, 1, 2, 3, 5, 18, 20] 27 (fun k => bif k == 1000005 then some 35 else none)
 (Hints.mk (fun x x_1 => none) (fun s => Nat.testBit 0 s) fun x => []) [(ty36, Mode.ro), (ty3, Mode.ro)]
noncomputable def Kw_szRelationS := endK C [(ty36, Mode.ro), (ty3, Mode.ro)] [(ty3, 0)] [RV.tmp 4]
noncomputable def Lw_szRelationS_5 (x0 : List Rel) (x1 : Int) (x5 : Int) : Option ((Int × PUnit) × PUnit) := loopAt Ew_szRelationS [1, 1, 1, 0, 1, 0] (Tryz.f15.body.getD .skip) Kw_szRelationS [V.d none 0 ty36 x0, V.d none 0 (Ty.int IntKind.i64) x1, V.dead, V.dead, V.dead, V.d none 0 (Ty.int IntKind.i64) x5,
 V.dead, V.dead, V.dead, V.dead, V.dead, V.dead, V.dead, V.dead, V.dead, V.dead, V.dead, V.dead, V.dead, V.dead, V.dead,
 V.dead, V.dead, V.dead, V.dead, V.dead, V.dead]
noncomputable def Sw_szRelationS (a0 : List Rel) (a1 : Int) : Option ((Int × PUnit) × PUnit) := Fw_szRelationS.sem (a0, a1, ())
def jw_szRelationS : List (Nat × List Nat) := [(1000005, [1, 1, 1, 0, 1, 0])]
theorem jw_szRelationS_ok : okB jw_szRelationS (Tryz.f15.body.getD .skip) [] = true := by kernel_rfl
theorem Lw_szRelationS_5_eq (x0 : List Rel) (x1 : Int) (x5 : Int) : Lw_szRelationS_5 x0 x1 x5 =
  bif decide (x5 < (↑x0.length : Int)) then
 (getI x0 x5).bind fun y =>
  (Sw_szRelation y x1).bind fun y =>
   bif decide (y.fst.fst < 0) then some ((-1, ()), ()) else Lw_szRelationS_5 x0 y.fst.fst (IntKind.i64.wrap (x5 + 1))
else some ((x1, ()), ()) := (turn_eq jw_szRelationS_ok [1, 1, 1, 0, 1, 0] (by kernel_rfl) _).trans (by kernel_rfl)
theorem Sw_szRelationS_eq (a0 : List Rel) (a1 : Int) : Sw_szRelationS a0 a1 =
  bif decide (IntKind.i64.wrap (a1 - (↑a0.length : Int)) < 0) then some ((-1, ()), ())
else Lw_szRelationS_5 a0 (IntKind.i64.wrap (a1 - (↑a0.length : Int))) 0 := (Eq.trans (by kernel_rfl : Sw_szRelationS a0 a1 = denK Ew_szRelationS (Tryz.f15.body.getD .skip) Kw_szRelationS (slots0 27 [(ty36, Mode.ro), (ty3, Mode.ro)] (a0, a1, ()))) (all_eq jw_szRelationS_ok _)).trans (by kernel_rfl)
noncomputable def Ew_szNode : Env := mkEnv C tab_w_szRelationS [0, 1, 2, 3, 5, 12, 19, 25] 32
 (fun k => bif k == 4 then some 22 else bif k == 7 then some 22 else none)
 (Hints.mk (fun x x_1 => none) (fun s => Nat.testBit 4 s) fun r => bif r == 2 then [6, 26] else [])
 [(ty163, Mode.ro), (ty3, Mode.ro)]
noncomputable def Kw_szNode := endK C [(ty163, Mode.ro), (ty3, Mode.ro)] [(ty3, 0)] [RV.tmp 4]
noncomputable def Sw_szNode (a0 : Int × Atm × ByteArray × ByteArray × List Int × Int × Int × Int) (a1 : Int) : Option ((Int × PUnit) × PUnit) := Fw_szNode.sem (a0, a1, ())
theorem Sw_szNode_eq (a0 : Int × Atm × ByteArray × ByteArray × List Int × Int × Int × Int) (a1 : Int) : Sw_szNode a0 a1 =
  (Sw_szAtom a0.snd.fst a1).bind fun y =>
 bif decide (y.fst.fst < 0) then some ((-1, ()), ())
 else
  bif decide (IntKind.i64.wrap (y.fst.fst - (↑(ByteArray.size a0.snd.snd.fst) : Int)) < 0) then some ((-1, ()), ())
  else
   bif
     decide
      (IntKind.i64.wrap
        (IntKind.i64.wrap (y.fst.fst - (↑(ByteArray.size a0.snd.snd.fst) : Int)) -
         (↑(ByteArray.size a0.snd.snd.snd.fst) : Int)) <
       0) then
    some ((-1, ()), ())
   else
    (Sw_szIntS a0.snd.snd.snd.snd.fst
       (IntKind.i64.wrap
        (IntKind.i64.wrap (y.fst.fst - (↑(ByteArray.size a0.snd.snd.fst) : Int)) -
         (↑(ByteArray.size a0.snd.snd.snd.fst) : Int)))).bind
     fun y => bif decide (y.fst.fst < 0) then some ((-1, ()), ()) else some ((y.fst.fst, ()), ()) := by kernel_rfl
noncomputable def Ew_szNodeS : Env := mkEnv C tab_w_szNode [0, 1, 2, 3, 5, 18, 20] 27 (fun k => bif k == 1000005 then some 35 else none)
 (Hints.mk (fun x x_1 => none) (fun s => Nat.testBit 0 s) fun x => []) [(ty37, Mode.ro), (ty3, Mode.ro)]
noncomputable def Kw_szNodeS := endK C [(ty37, Mode.ro), (ty3, Mode.ro)] [(ty3, 0)] [RV.tmp 4]
noncomputable def Lw_szNodeS_5 (x0 : List Nod) (x1 : Int) (x5 : Int) : Option ((Int × PUnit) × PUnit) := loopAt Ew_szNodeS [1, 1, 1, 0, 1, 0] (Tryz.f51.body.getD .skip) Kw_szNodeS [V.d none 0 ty37 x0, V.d none 0 (Ty.int IntKind.i64) x1, V.dead, V.dead, V.dead, V.d none 0 (Ty.int IntKind.i64) x5,
 V.dead, V.dead, V.dead, V.dead, V.dead, V.dead, V.dead, V.dead, V.dead, V.dead, V.dead, V.dead, V.dead, V.dead, V.dead,
 V.dead, V.dead, V.dead, V.dead, V.dead, V.dead]
noncomputable def Sw_szNodeS (a0 : List Nod) (a1 : Int) : Option ((Int × PUnit) × PUnit) := Fw_szNodeS.sem (a0, a1, ())
def jw_szNodeS : List (Nat × List Nat) := [(1000005, [1, 1, 1, 0, 1, 0])]
theorem jw_szNodeS_ok : okB jw_szNodeS (Tryz.f51.body.getD .skip) [] = true := by kernel_rfl
theorem Lw_szNodeS_5_eq (x0 : List Nod) (x1 : Int) (x5 : Int) : Lw_szNodeS_5 x0 x1 x5 =
  bif decide (x5 < (↑x0.length : Int)) then
 (getI x0 x5).bind fun y =>
  (Sw_szNode y x1).bind fun y =>
   bif decide (y.fst.fst < 0) then some ((-1, ()), ()) else Lw_szNodeS_5 x0 y.fst.fst (IntKind.i64.wrap (x5 + 1))
else some ((x1, ()), ()) := (turn_eq jw_szNodeS_ok [1, 1, 1, 0, 1, 0] (by kernel_rfl) _).trans (by kernel_rfl)
theorem Sw_szNodeS_eq (a0 : List Nod) (a1 : Int) : Sw_szNodeS a0 a1 =
  bif decide (IntKind.i64.wrap (a1 - (↑a0.length : Int)) < 0) then some ((-1, ()), ())
else Lw_szNodeS_5 a0 (IntKind.i64.wrap (a1 - (↑a0.length : Int))) 0 := (Eq.trans (by kernel_rfl : Sw_szNodeS a0 a1 = denK Ew_szNodeS (Tryz.f51.body.getD .skip) Kw_szNodeS (slots0 27 [(ty37, Mode.ro), (ty3, Mode.ro)] (a0, a1, ()))) (all_eq jw_szNodeS_ok _)).trans (by kernel_rfl)
noncomputable def Ew_szIntSS : Env := mkEnv C tab_w_szNodeS [0, 1, 2, 3, 5, 18, 20] 27 (fun k => bif k == 1000005 then some 35 else none)
 (Hints.mk (fun x x_1 => none) (fun s => Nat.testBit 0 s) fun x => []) [(ty120, Mode.ro), (ty3, Mode.ro)]
noncomputable def Kw_szIntSS := endK C [(ty120, Mode.ro), (ty3, Mode.ro)] [(ty3, 0)] [RV.tmp 4]
noncomputable def Lw_szIntSS_5 (x0 : List (List Int)) (x1 : Int) (x5 : Int) : Option ((Int × PUnit) × PUnit) := loopAt Ew_szIntSS [1, 1, 1, 0, 1, 0] (Tryz.f150.body.getD .skip) Kw_szIntSS [V.d none 0 ty120 x0, V.d none 0 (Ty.int IntKind.i64) x1, V.dead, V.dead, V.dead, V.d none 0 (Ty.int IntKind.i64) x5,
 V.dead, V.dead, V.dead, V.dead, V.dead, V.dead, V.dead, V.dead, V.dead, V.dead, V.dead, V.dead, V.dead, V.dead, V.dead,
 V.dead, V.dead, V.dead, V.dead, V.dead, V.dead]
noncomputable def Sw_szIntSS (a0 : List (List Int)) (a1 : Int) : Option ((Int × PUnit) × PUnit) := Fw_szIntSS.sem (a0, a1, ())
def jw_szIntSS : List (Nat × List Nat) := [(1000005, [1, 1, 1, 0, 1, 0])]
theorem jw_szIntSS_ok : okB jw_szIntSS (Tryz.f150.body.getD .skip) [] = true := by kernel_rfl
theorem Lw_szIntSS_5_eq (x0 : List (List Int)) (x1 : Int) (x5 : Int) : Lw_szIntSS_5 x0 x1 x5 =
  bif decide (x5 < (↑x0.length : Int)) then
 (getI x0 x5).bind fun y =>
  (Sw_szIntS y x1).bind fun y =>
   bif decide (y.fst.fst < 0) then some ((-1, ()), ()) else Lw_szIntSS_5 x0 y.fst.fst (IntKind.i64.wrap (x5 + 1))
else some ((x1, ()), ()) := (turn_eq jw_szIntSS_ok [1, 1, 1, 0, 1, 0] (by kernel_rfl) _).trans (by kernel_rfl)
theorem Sw_szIntSS_eq (a0 : List (List Int)) (a1 : Int) : Sw_szIntSS a0 a1 =
  bif decide (IntKind.i64.wrap (a1 - (↑a0.length : Int)) < 0) then some ((-1, ()), ())
else Lw_szIntSS_5 a0 (IntKind.i64.wrap (a1 - (↑a0.length : Int))) 0 := (Eq.trans (by kernel_rfl : Sw_szIntSS a0 a1 = denK Ew_szIntSS (Tryz.f150.body.getD .skip) Kw_szIntSS (slots0 27 [(ty120, Mode.ro), (ty3, Mode.ro)] (a0, a1, ()))) (all_eq jw_szIntSS_ok _)).trans (by kernel_rfl)
noncomputable def Ew_szSupport : Env := mkEnv C tab_w_szIntSS [0, 1, 2, 3, 5, 11] 18 (fun x => none)
 (Hints.mk (fun x x_1 => none) (fun s => Nat.testBit 4 s) fun r => bif r == 2 then [6, 12] else [])
 [(ty169, Mode.ro), (ty3, Mode.ro)]
noncomputable def Kw_szSupport := endK C [(ty169, Mode.ro), (ty3, Mode.ro)] [(ty3, 0)] [RV.tmp 4]
noncomputable def Sw_szSupport (a0 : Cel × List (List Int)) (a1 : Int) : Option ((Int × PUnit) × PUnit) := Fw_szSupport.sem (a0, a1, ())
theorem Sw_szSupport_eq (a0 : Cel × List (List Int)) (a1 : Int) : Sw_szSupport a0 a1 =
  (Sw_szCell a0.fst a1).bind fun y =>
 bif decide (y.fst.fst < 0) then some ((-1, ()), ())
 else
  (Sw_szIntSS a0.snd y.fst.fst).bind fun y =>
   bif decide (y.fst.fst < 0) then some ((-1, ()), ()) else some ((y.fst.fst, ()), ()) := by kernel_rfl
noncomputable def Ew_szSupportS : Env := mkEnv C tab_w_szSupport [0, 1, 2, 3, 5, 18, 20] 27 (fun k => bif k == 1000005 then some 35 else none)
 (Hints.mk (fun x x_1 => none) (fun s => Nat.testBit 0 s) fun x => []) [(ty38, Mode.ro), (ty3, Mode.ro)]
noncomputable def Kw_szSupportS := endK C [(ty38, Mode.ro), (ty3, Mode.ro)] [(ty3, 0)] [RV.tmp 4]
noncomputable def Lw_szSupportS_5 (x0 : List Sup) (x1 : Int) (x5 : Int) : Option ((Int × PUnit) × PUnit) := loopAt Ew_szSupportS [1, 1, 1, 0, 1, 0] (Tryz.f52.body.getD .skip) Kw_szSupportS [V.d none 0 ty38 x0, V.d none 0 (Ty.int IntKind.i64) x1, V.dead, V.dead, V.dead, V.d none 0 (Ty.int IntKind.i64) x5,
 V.dead, V.dead, V.dead, V.dead, V.dead, V.dead, V.dead, V.dead, V.dead, V.dead, V.dead, V.dead, V.dead, V.dead, V.dead,
 V.dead, V.dead, V.dead, V.dead, V.dead, V.dead]
noncomputable def Sw_szSupportS (a0 : List Sup) (a1 : Int) : Option ((Int × PUnit) × PUnit) := Fw_szSupportS.sem (a0, a1, ())
def jw_szSupportS : List (Nat × List Nat) := [(1000005, [1, 1, 1, 0, 1, 0])]
theorem jw_szSupportS_ok : okB jw_szSupportS (Tryz.f52.body.getD .skip) [] = true := by kernel_rfl
theorem Lw_szSupportS_5_eq (x0 : List Sup) (x1 : Int) (x5 : Int) : Lw_szSupportS_5 x0 x1 x5 =
  bif decide (x5 < (↑x0.length : Int)) then
 (getI x0 x5).bind fun y =>
  (Sw_szSupport y x1).bind fun y =>
   bif decide (y.fst.fst < 0) then some ((-1, ()), ()) else Lw_szSupportS_5 x0 y.fst.fst (IntKind.i64.wrap (x5 + 1))
else some ((x1, ()), ()) := (turn_eq jw_szSupportS_ok [1, 1, 1, 0, 1, 0] (by kernel_rfl) _).trans (by kernel_rfl)
theorem Sw_szSupportS_eq (a0 : List Sup) (a1 : Int) : Sw_szSupportS a0 a1 =
  bif decide (IntKind.i64.wrap (a1 - (↑a0.length : Int)) < 0) then some ((-1, ()), ())
else Lw_szSupportS_5 a0 (IntKind.i64.wrap (a1 - (↑a0.length : Int))) 0 := (Eq.trans (by kernel_rfl : Sw_szSupportS a0 a1 = denK Ew_szSupportS (Tryz.f52.body.getD .skip) Kw_szSupportS (slots0 27 [(ty38, Mode.ro), (ty3, Mode.ro)] (a0, a1, ()))) (all_eq jw_szSupportS_ok _)).trans (by kernel_rfl)
noncomputable def Ew_szView : Env := mkEnv C tab_w_szSupportS [0, 1, 2, 3, 5, 11] 18 (fun x => none)
 (Hints.mk (fun x x_1 => none) (fun s => Nat.testBit 4 s) fun r => bif r == 2 then [6, 12] else [])
 [(ty40, Mode.ro), (ty3, Mode.ro)]
noncomputable def Kw_szView := endK C [(ty40, Mode.ro), (ty3, Mode.ro)] [(ty3, 0)] [RV.tmp 4]
noncomputable def Sw_szView (a0 : Viw) (a1 : Int) : Option ((Int × PUnit) × PUnit) := Fw_szView.sem (a0, a1, ())
theorem Sw_szView_eq (a0 : Viw) (a1 : Int) : Sw_szView a0 a1 =
  (Sw_szNodeS a0.fst a1).bind fun y =>
 bif decide (y.fst.fst < 0) then some ((-1, ()), ())
 else
  (Sw_szSupportS a0.snd y.fst.fst).bind fun y =>
   bif decide (y.fst.fst < 0) then some ((-1, ()), ()) else some ((y.fst.fst, ()), ()) := by kernel_rfl
noncomputable def Ew_toIntS : Env := mkEnv C tab_w_szView [0, 1, 3, 4, 14, 16, 18] 22 (fun k => bif k == 1000003 then some 25 else none)
 (Hints.mk (fun x x_1 => none) (fun s => Nat.testBit 0 s) fun x => []) [(ty59, Mode.ro)]
noncomputable def Kw_toIntS := endK C [(ty59, Mode.ro)] [(ty59, 1)] [RV.tmp 2]
noncomputable def Lw_toIntS_3 (x0 : List Int) (x3 : List Int) (x4 : Int) : Option ((List Int × PUnit) × PUnit) := loopAt Ew_toIntS [1, 1, 0, 1, 0] (Tryz.f154.body.getD .skip) Kw_toIntS [V.d none 0 ty59 x0, V.dead, V.dead, V.d none (ty3.depth + 1) (Ty.slice 3 ty3) x3, V.d none 0 (Ty.int IntKind.i64) x4,
 V.dead, V.dead, V.dead, V.dead, V.dead, V.dead, V.dead, V.dead, V.dead, V.dead, V.dead, V.dead, V.dead, V.dead, V.dead,
 V.dead, V.dead]
noncomputable def Sw_toIntS (a0 : List Int) : Option ((List Int × PUnit) × PUnit) := Fw_toIntS.sem (a0, ())
def jw_toIntS : List (Nat × List Nat) := [(1000003, [1, 1, 0, 1, 0])]
theorem jw_toIntS_ok : okB jw_toIntS (Tryz.f154.body.getD .skip) [] = true := by kernel_rfl
theorem Lw_toIntS_3_eq (x0 : List Int) (x3 : List Int) (x4 : Int) : Lw_toIntS_3 x0 x3 x4 =
  bif decide (x4 < (↑x0.length : Int)) then
 (getI x0 x4).bind fun y =>
  (getI x3 x4).bind fun y_1 =>
   (getI x3 x4).bind fun y_2 =>
    (getI x3 x4).bind fun y_3 => (some (x3.set x4.toNat y)).bind fun y => Lw_toIntS_3 x0 y (IntKind.i64.wrap (x4 + 1))
else some ((x3, ()), ()) := (turn_eq jw_toIntS_ok [1, 1, 0, 1, 0] (by kernel_rfl) _).trans (by kernel_rfl)
theorem Sw_toIntS_eq (a0 : List Int) : Sw_toIntS a0 =
  bif
  decide (0 ≤ (↑a0.length : Int)) && decide ((↑a0.length : Int) ≤ (↑a0.length : Int)) &&
    decide ((↑a0.length : Int) * (↑8 : Int) ≤ 140737488355328) &&
   decide ((↑a0.length : Int) ≤ 9223372036854775807) then
 Lw_toIntS_3 a0 (List.replicate a0.length 0) 0
else none := (Eq.trans (by kernel_rfl : Sw_toIntS a0 = denK Ew_toIntS (Tryz.f154.body.getD .skip) Kw_toIntS (slots0 22 [(ty59, Mode.ro)] (a0, ()))) (all_eq jw_toIntS_ok _)).trans (by kernel_rfl)
noncomputable def Ew_toAtom : Env := mkEnv C tab_w_toIntS [0, 1, 2, 3, 4, 8, 11] 15
 (fun k =>
  bif k == 2 then some 14
  else bif k == 3 then some 14 else bif k == 4 then some 14 else bif k == 5 then some 12 else none)
 (Hints.mk (fun x x_1 => none) (fun s => Nat.testBit 14 s) fun r =>
  bif r == 1 then [5] else bif r == 2 then [] else bif r == 3 then [14] else [])
 [(ty161, Mode.ro)]
noncomputable def Kw_toAtom := endK C [(ty161, Mode.ro)] [(ty85, 1)] [RV.cell 2 85]
noncomputable def Sw_toAtom (a0 : Atm) : Option ((Atm × PUnit) × PUnit) := Fw_toAtom.sem (a0, ())
theorem Sw_toAtom_eq (a0 : Atm) : Sw_toAtom a0 =
  (Sw_toIntS a0.fst).bind fun y => some (((y.fst.fst, a0.snd.fst, a0.snd.snd), ()), ()) := by kernel_rfl
noncomputable def Ew_toAtomS : Env := mkEnv C tab_w_toAtom [0, 1, 3, 4, 14, 16, 18] 23 (fun k => bif k == 1000003 then some 25 else none)
 (Hints.mk (fun x x_1 => none) (fun s => Nat.testBit 0 s) fun x => []) [(ty165, Mode.ro)]
noncomputable def Kw_toAtomS := endK C [(ty165, Mode.ro)] [(ty78, 2)] [RV.tmp 2]
noncomputable def Lw_toAtomS_3 (x0 : List Atm) (x3 : List Atm) (x4 : Int) : Option ((List Atm × PUnit) × PUnit) := loopAt Ew_toAtomS [1, 1, 0, 1, 0] (Tryz.f187.body.getD .skip) Kw_toAtomS [V.d none 0 ty165 x0, V.dead, V.dead, V.d none (ty85.depth + 1) (Ty.slice 85 ty85) x3,
 V.d none 0 (Ty.int IntKind.i64) x4, V.dead, V.dead, V.dead, V.dead, V.dead, V.dead, V.dead, V.dead, V.dead, V.dead,
 V.dead, V.dead, V.dead, V.dead, V.dead, V.dead, V.dead, V.dead]
noncomputable def Sw_toAtomS (a0 : List Atm) : Option ((List Atm × PUnit) × PUnit) := Fw_toAtomS.sem (a0, ())
def jw_toAtomS : List (Nat × List Nat) := [(1000003, [1, 1, 0, 1, 0])]
theorem jw_toAtomS_ok : okB jw_toAtomS (Tryz.f187.body.getD .skip) [] = true := by kernel_rfl
theorem Lw_toAtomS_3_eq (x0 : List Atm) (x3 : List Atm) (x4 : Int) : Lw_toAtomS_3 x0 x3 x4 =
  bif decide (x4 < (↑x0.length : Int)) then
 (getI x0 x4).bind fun y =>
  (Sw_toAtom y).bind fun y =>
   (getI x3 x4).bind fun y_1 =>
    (getI x3 x4).bind fun y_2 =>
     (getI x3 x4).bind fun y_3 =>
      (some (x3.set x4.toNat y.fst.fst)).bind fun y => Lw_toAtomS_3 x0 y (IntKind.i64.wrap (x4 + 1))
else some ((x3, ()), ()) := (turn_eq jw_toAtomS_ok [1, 1, 0, 1, 0] (by kernel_rfl) _).trans (by kernel_rfl)
theorem Sw_toAtomS_eq (a0 : List Atm) : Sw_toAtomS a0 =
  bif
  decide (0 ≤ (↑a0.length : Int)) && decide ((↑a0.length : Int) ≤ (↑a0.length : Int)) &&
    decide ((↑a0.length : Int) * (↑40 : Int) ≤ 140737488355328) &&
   decide ((↑a0.length : Int) ≤ 9223372036854775807) then
 Lw_toAtomS_3 a0 (List.replicate a0.length ([], 0, false)) 0
else none := (Eq.trans (by kernel_rfl : Sw_toAtomS a0 = denK Ew_toAtomS (Tryz.f187.body.getD .skip) Kw_toAtomS (slots0 23 [(ty165, Mode.ro)] (a0, ()))) (all_eq jw_toAtomS_ok _)).trans (by kernel_rfl)
noncomputable def Ew_toCell : Env := mkEnv C tab_w_toAtomS [0, 1, 2, 3, 4, 7] 12
 (fun k => bif k == 2 then some 14 else bif k == 3 then some 14 else bif k == 4 then some 12 else none)
 (Hints.mk (fun x x_1 => none) (fun s => Nat.testBit 14 s) fun r =>
  bif r == 1 then [8] else bif r == 2 then [] else bif r == 3 then [11] else [])
 [(ty167, Mode.ro)]
noncomputable def Kw_toCell := endK C [(ty167, Mode.ro)] [(ty83, 2)] [RV.cell 2 83]
noncomputable def Sw_toCell (a0 : Int × List Atm) : Option ((Cel × PUnit) × PUnit) := Fw_toCell.sem (a0, ())
theorem Sw_toCell_eq (a0 : Int × List Atm) : Sw_toCell a0 =
  (Sw_toAtomS a0.snd).bind fun y => some (((a0.fst, y.fst.fst), ()), ()) := by kernel_rfl
noncomputable def Ew_toRow : Env := mkEnv C tab_w_toCell [0, 1, 2, 3, 4, 7] 12
 (fun k => bif k == 2 then some 14 else bif k == 3 then some 14 else bif k == 4 then some 12 else none)
 (Hints.mk (fun x x_1 => none) (fun s => Nat.testBit 14 s) fun r =>
  bif r == 1 then [8] else bif r == 2 then [] else bif r == 3 then [11] else [])
 [(ty204, Mode.ro)]
noncomputable def Kw_toRow := endK C [(ty204, Mode.ro)] [(ty184, 2)] [RV.cell 2 184]
noncomputable def Sw_toRow (a0 : ByteArray × Int × List Atm) : Option ((Rw × PUnit) × PUnit) := Fw_toRow.sem (a0, ())
theorem Sw_toRow_eq (a0 : ByteArray × Int × List Atm) : Sw_toRow a0 =
  (Sw_toCell a0.snd).bind fun y => some (((a0.fst, y.fst.fst), ()), ()) := by kernel_rfl
noncomputable def Ew_toRowS : Env := mkEnv C tab_w_toRow [0, 1, 3, 4, 14, 16, 18] 23 (fun k => bif k == 1000003 then some 25 else none)
 (Hints.mk (fun x x_1 => none) (fun s => Nat.testBit 0 s) fun x => []) [(ty108, Mode.ro)]
noncomputable def Kw_toRowS := endK C [(ty108, Mode.ro)] [(ty115, 3)] [RV.tmp 2]
noncomputable def Lw_toRowS_3 (x0 : List Rw) (x3 : List Rw) (x4 : Int) : Option ((List Rw × PUnit) × PUnit) := loopAt Ew_toRowS [1, 1, 0, 1, 0] (Tryz.f112.body.getD .skip) Kw_toRowS [V.d none 0 ty108 x0, V.dead, V.dead, V.d none (ty184.depth + 1) (Ty.slice 184 ty184) x3,
 V.d none 0 (Ty.int IntKind.i64) x4, V.dead, V.dead, V.dead, V.dead, V.dead, V.dead, V.dead, V.dead, V.dead, V.dead,
 V.dead, V.dead, V.dead, V.dead, V.dead, V.dead, V.dead, V.dead]
noncomputable def Sw_toRowS (a0 : List Rw) : Option ((List Rw × PUnit) × PUnit) := Fw_toRowS.sem (a0, ())
def jw_toRowS : List (Nat × List Nat) := [(1000003, [1, 1, 0, 1, 0])]
theorem jw_toRowS_ok : okB jw_toRowS (Tryz.f112.body.getD .skip) [] = true := by kernel_rfl
theorem Lw_toRowS_3_eq (x0 : List Rw) (x3 : List Rw) (x4 : Int) : Lw_toRowS_3 x0 x3 x4 =
  bif decide (x4 < (↑x0.length : Int)) then
 (getI x0 x4).bind fun y =>
  (Sw_toRow y).bind fun y =>
   (getI x3 x4).bind fun y_1 =>
    (getI x3 x4).bind fun y_2 =>
     (getI x3 x4).bind fun y_3 =>
      (some (x3.set x4.toNat y.fst.fst)).bind fun y => Lw_toRowS_3 x0 y (IntKind.i64.wrap (x4 + 1))
else some ((x3, ()), ()) := (turn_eq jw_toRowS_ok [1, 1, 0, 1, 0] (by kernel_rfl) _).trans (by kernel_rfl)
theorem Sw_toRowS_eq (a0 : List Rw) : Sw_toRowS a0 =
  bif
  decide (0 ≤ (↑a0.length : Int)) && decide ((↑a0.length : Int) ≤ (↑a0.length : Int)) &&
    decide ((↑a0.length : Int) * (↑48 : Int) ≤ 140737488355328) &&
   decide ((↑a0.length : Int) ≤ 9223372036854775807) then
 Lw_toRowS_3 a0 (List.replicate a0.length (ByteArray.empty, 0, [])) 0
else none := (Eq.trans (by kernel_rfl : Sw_toRowS a0 = denK Ew_toRowS (Tryz.f112.body.getD .skip) Kw_toRowS (slots0 23 [(ty108, Mode.ro)] (a0, ()))) (all_eq jw_toRowS_ok _)).trans (by kernel_rfl)
noncomputable def Ew_toRelation : Env := mkEnv C tab_w_toRowS [0, 1, 2, 3, 4, 7, 10] 15
 (fun k =>
  bif k == 2 then some 14
  else bif k == 3 then some 14 else bif k == 4 then some 14 else bif k == 5 then some 12 else none)
 (Hints.mk (fun x x_1 => none) (fun s => Nat.testBit 14 s) fun r =>
  bif r == 1 then [11] else bif r == 2 then [] else bif r == 3 then [14] else [])
 [(ty110, Mode.ro)]
noncomputable def Kw_toRelation := endK C [(ty110, Mode.ro)] [(ty117, 3)] [RV.cell 2 117]
noncomputable def Sw_toRelation (a0 : ByteArray × Int × List Rw) : Option ((Rel × PUnit) × PUnit) := Fw_toRelation.sem (a0, ())
theorem Sw_toRelation_eq (a0 : ByteArray × Int × List Rw) : Sw_toRelation a0 =
  (Sw_toRowS a0.snd.snd).bind fun y => some (((a0.fst, a0.snd.fst, y.fst.fst), ()), ()) := by kernel_rfl
noncomputable def Ew_toRelationS : Env := mkEnv C tab_w_toRelation [0, 1, 3, 4, 14, 16, 18] 23 (fun k => bif k == 1000003 then some 25 else none)
 (Hints.mk (fun x x_1 => none) (fun s => Nat.testBit 0 s) fun x => []) [(ty36, Mode.ro)]
noncomputable def Kw_toRelationS := endK C [(ty36, Mode.ro)] [(ty49, 4)] [RV.tmp 2]
noncomputable def Lw_toRelationS_3 (x0 : List Rel) (x3 : List Rel) (x4 : Int) : Option ((List Rel × PUnit) × PUnit) := loopAt Ew_toRelationS [1, 1, 0, 1, 0] (Tryz.f18.body.getD .skip) Kw_toRelationS [V.d none 0 ty36 x0, V.dead, V.dead, V.d none (ty117.depth + 1) (Ty.slice 117 ty117) x3,
 V.d none 0 (Ty.int IntKind.i64) x4, V.dead, V.dead, V.dead, V.dead, V.dead, V.dead, V.dead, V.dead, V.dead, V.dead,
 V.dead, V.dead, V.dead, V.dead, V.dead, V.dead, V.dead, V.dead]
noncomputable def Sw_toRelationS (a0 : List Rel) : Option ((List Rel × PUnit) × PUnit) := Fw_toRelationS.sem (a0, ())
def jw_toRelationS : List (Nat × List Nat) := [(1000003, [1, 1, 0, 1, 0])]
theorem jw_toRelationS_ok : okB jw_toRelationS (Tryz.f18.body.getD .skip) [] = true := by kernel_rfl
theorem Lw_toRelationS_3_eq (x0 : List Rel) (x3 : List Rel) (x4 : Int) : Lw_toRelationS_3 x0 x3 x4 =
  bif decide (x4 < (↑x0.length : Int)) then
 (getI x0 x4).bind fun y =>
  (Sw_toRelation y).bind fun y =>
   (getI x3 x4).bind fun y_1 =>
    (getI x3 x4).bind fun y_2 =>
     (getI x3 x4).bind fun y_3 =>
      (some (x3.set x4.toNat y.fst.fst)).bind fun y => Lw_toRelationS_3 x0 y (IntKind.i64.wrap (x4 + 1))
else some ((x3, ()), ()) := (turn_eq jw_toRelationS_ok [1, 1, 0, 1, 0] (by kernel_rfl) _).trans (by kernel_rfl)
theorem Sw_toRelationS_eq (a0 : List Rel) : Sw_toRelationS a0 =
  bif
  decide (0 ≤ (↑a0.length : Int)) && decide ((↑a0.length : Int) ≤ (↑a0.length : Int)) &&
    decide ((↑a0.length : Int) * (↑48 : Int) ≤ 140737488355328) &&
   decide ((↑a0.length : Int) ≤ 9223372036854775807) then
 Lw_toRelationS_3 a0 (List.replicate a0.length (ByteArray.empty, 0, [])) 0
else none := (Eq.trans (by kernel_rfl : Sw_toRelationS a0 = denK Ew_toRelationS (Tryz.f18.body.getD .skip) Kw_toRelationS (slots0 23 [(ty36, Mode.ro)] (a0, ()))) (all_eq jw_toRelationS_ok _)).trans (by kernel_rfl)
noncomputable def Ew_toNode : Env := mkEnv C tab_w_toRelationS [0, 1, 2, 3, 4, 7, 11, 14, 17, 21, 24, 27] 31
 (fun k =>
  bif k == 2 then some 14
  else
   bif k == 3 then some 14
   else
    bif k == 4 then some 14
    else
     bif k == 5 then some 14
     else
      bif k == 6 then some 14
      else
       bif k == 7 then some 14
       else bif k == 8 then some 14 else bif k == 9 then some 14 else bif k == 10 then some 12 else none)
 (Hints.mk (fun x x_1 => none) (fun s => Nat.testBit 14 s) fun r =>
  bif r == 1 then [8, 18] else bif r == 2 then [] else bif r == 3 then [30] else [])
 [(ty163, Mode.ro)]
noncomputable def Kw_toNode := endK C [(ty163, Mode.ro)] [(ty173, 1)] [RV.cell 2 173]
noncomputable def Sw_toNode (a0 : Int × Atm × ByteArray × ByteArray × List Int × Int × Int × Int) : Option ((Nod × PUnit) × PUnit) := Fw_toNode.sem (a0, ())
theorem Sw_toNode_eq (a0 : Int × Atm × ByteArray × ByteArray × List Int × Int × Int × Int) : Sw_toNode a0 =
  (Sw_toAtom a0.snd.fst).bind fun y =>
 (Sw_toIntS a0.snd.snd.snd.snd.fst).bind fun y_1 =>
  some
   (((a0.fst, y.fst.fst, a0.snd.snd.fst, a0.snd.snd.snd.fst, y_1.fst.fst, a0.snd.snd.snd.snd.snd.fst,
      a0.snd.snd.snd.snd.snd.snd.fst, a0.snd.snd.snd.snd.snd.snd.snd),
     ()),
    ()) := by kernel_rfl
noncomputable def Ew_toNodeS : Env := mkEnv C tab_w_toNode [0, 1, 3, 4, 14, 16, 18] 23 (fun k => bif k == 1000003 then some 25 else none)
 (Hints.mk (fun x x_1 => none) (fun s => Nat.testBit 0 s) fun x => []) [(ty37, Mode.ro)]
noncomputable def Kw_toNodeS := endK C [(ty37, Mode.ro)] [(ty43, 2)] [RV.tmp 2]
noncomputable def Lw_toNodeS_3 (x0 : List Nod) (x3 : List Nod) (x4 : Int) : Option ((List Nod × PUnit) × PUnit) := loopAt Ew_toNodeS [1, 1, 0, 1, 0] (Tryz.f60.body.getD .skip) Kw_toNodeS [V.d none 0 ty37 x0, V.dead, V.dead, V.d none (ty173.depth + 1) (Ty.slice 173 ty173) x3,
 V.d none 0 (Ty.int IntKind.i64) x4, V.dead, V.dead, V.dead, V.dead, V.dead, V.dead, V.dead, V.dead, V.dead, V.dead,
 V.dead, V.dead, V.dead, V.dead, V.dead, V.dead, V.dead, V.dead]
noncomputable def Sw_toNodeS (a0 : List Nod) : Option ((List Nod × PUnit) × PUnit) := Fw_toNodeS.sem (a0, ())
def jw_toNodeS : List (Nat × List Nat) := [(1000003, [1, 1, 0, 1, 0])]
theorem jw_toNodeS_ok : okB jw_toNodeS (Tryz.f60.body.getD .skip) [] = true := by kernel_rfl
theorem Lw_toNodeS_3_eq (x0 : List Nod) (x3 : List Nod) (x4 : Int) : Lw_toNodeS_3 x0 x3 x4 =
  bif decide (x4 < (↑x0.length : Int)) then
 (getI x0 x4).bind fun y =>
  (Sw_toNode y).bind fun y =>
   (getI x3 x4).bind fun y_1 =>
    (getI x3 x4).bind fun y_2 =>
     (getI x3 x4).bind fun y_3 =>
      (some (x3.set x4.toNat y.fst.fst)).bind fun y => Lw_toNodeS_3 x0 y (IntKind.i64.wrap (x4 + 1))
else some ((x3, ()), ()) := (turn_eq jw_toNodeS_ok [1, 1, 0, 1, 0] (by kernel_rfl) _).trans (by kernel_rfl)
theorem Sw_toNodeS_eq (a0 : List Nod) : Sw_toNodeS a0 =
  bif
  decide (0 ≤ (↑a0.length : Int)) && decide ((↑a0.length : Int) ≤ (↑a0.length : Int)) &&
    decide ((↑a0.length : Int) * (↑128 : Int) ≤ 140737488355328) &&
   decide ((↑a0.length : Int) ≤ 9223372036854775807) then
 Lw_toNodeS_3 a0 (List.replicate a0.length (0, ([], 0, false), ByteArray.empty, ByteArray.empty, [], 0, 0, 0)) 0
else none := (Eq.trans (by kernel_rfl : Sw_toNodeS a0 = denK Ew_toNodeS (Tryz.f60.body.getD .skip) Kw_toNodeS (slots0 23 [(ty37, Mode.ro)] (a0, ()))) (all_eq jw_toNodeS_ok _)).trans (by kernel_rfl)
noncomputable def Ew_toIntSS : Env := mkEnv C tab_w_toNodeS [0, 1, 3, 4, 14, 16, 18] 23 (fun k => bif k == 1000003 then some 25 else none)
 (Hints.mk (fun x x_1 => none) (fun s => Nat.testBit 0 s) fun x => []) [(ty120, Mode.ro)]
noncomputable def Kw_toIntSS := endK C [(ty120, Mode.ro)] [(ty120, 2)] [RV.tmp 2]
noncomputable def Lw_toIntSS_3 (x0 : List (List Int)) (x3 : List (List Int)) (x4 : Int) : Option ((List (List Int) × PUnit) × PUnit) := loopAt Ew_toIntSS [1, 1, 0, 1, 0] (Tryz.f156.body.getD .skip) Kw_toIntSS [V.d none 0 ty120 x0, V.dead, V.dead, V.d none (ty59.depth + 1) (Ty.slice 59 ty59) x3,
 V.d none 0 (Ty.int IntKind.i64) x4, V.dead, V.dead, V.dead, V.dead, V.dead, V.dead, V.dead, V.dead, V.dead, V.dead,
 V.dead, V.dead, V.dead, V.dead, V.dead, V.dead, V.dead, V.dead]
noncomputable def Sw_toIntSS (a0 : List (List Int)) : Option ((List (List Int) × PUnit) × PUnit) := Fw_toIntSS.sem (a0, ())
def jw_toIntSS : List (Nat × List Nat) := [(1000003, [1, 1, 0, 1, 0])]
theorem jw_toIntSS_ok : okB jw_toIntSS (Tryz.f156.body.getD .skip) [] = true := by kernel_rfl
theorem Lw_toIntSS_3_eq (x0 : List (List Int)) (x3 : List (List Int)) (x4 : Int) : Lw_toIntSS_3 x0 x3 x4 =
  bif decide (x4 < (↑x0.length : Int)) then
 (getI x0 x4).bind fun y =>
  (Sw_toIntS y).bind fun y =>
   (getI x3 x4).bind fun y_1 =>
    (getI x3 x4).bind fun y_2 =>
     (getI x3 x4).bind fun y_3 =>
      (some (x3.set x4.toNat y.fst.fst)).bind fun y => Lw_toIntSS_3 x0 y (IntKind.i64.wrap (x4 + 1))
else some ((x3, ()), ()) := (turn_eq jw_toIntSS_ok [1, 1, 0, 1, 0] (by kernel_rfl) _).trans (by kernel_rfl)
theorem Sw_toIntSS_eq (a0 : List (List Int)) : Sw_toIntSS a0 =
  bif
  decide (0 ≤ (↑a0.length : Int)) && decide ((↑a0.length : Int) ≤ (↑a0.length : Int)) &&
    decide ((↑a0.length : Int) * (↑24 : Int) ≤ 140737488355328) &&
   decide ((↑a0.length : Int) ≤ 9223372036854775807) then
 Lw_toIntSS_3 a0 (List.replicate a0.length []) 0
else none := (Eq.trans (by kernel_rfl : Sw_toIntSS a0 = denK Ew_toIntSS (Tryz.f156.body.getD .skip) Kw_toIntSS (slots0 23 [(ty120, Mode.ro)] (a0, ()))) (all_eq jw_toIntSS_ok _)).trans (by kernel_rfl)
noncomputable def Ew_toSupport : Env := mkEnv C tab_w_toIntSS [0, 1, 2, 3, 4, 8] 13
 (fun k => bif k == 2 then some 14 else bif k == 3 then some 14 else bif k == 4 then some 12 else none)
 (Hints.mk (fun x x_1 => none) (fun s => Nat.testBit 14 s) fun r =>
  bif r == 1 then [5, 9] else bif r == 2 then [] else bif r == 3 then [12] else [])
 [(ty169, Mode.ro)]
noncomputable def Kw_toSupport := endK C [(ty169, Mode.ro)] [(ty122, 2)] [RV.cell 2 122]
noncomputable def Sw_toSupport (a0 : Cel × List (List Int)) : Option ((Sup × PUnit) × PUnit) := Fw_toSupport.sem (a0, ())
theorem Sw_toSupport_eq (a0 : Cel × List (List Int)) : Sw_toSupport a0 =
  (Sw_toCell a0.fst).bind fun y => (Sw_toIntSS a0.snd).bind fun y_1 => some (((y.fst.fst, y_1.fst.fst), ()), ()) := by kernel_rfl
noncomputable def Ew_toSupportS : Env := mkEnv C tab_w_toSupport [0, 1, 3, 4, 14, 16, 18] 23 (fun k => bif k == 1000003 then some 25 else none)
 (Hints.mk (fun x x_1 => none) (fun s => Nat.testBit 0 s) fun x => []) [(ty38, Mode.ro)]
noncomputable def Kw_toSupportS := endK C [(ty38, Mode.ro)] [(ty44, 3)] [RV.tmp 2]
noncomputable def Lw_toSupportS_3 (x0 : List Sup) (x3 : List Sup) (x4 : Int) : Option ((List Sup × PUnit) × PUnit) := loopAt Ew_toSupportS [1, 1, 0, 1, 0] (Tryz.f61.body.getD .skip) Kw_toSupportS [V.d none 0 ty38 x0, V.dead, V.dead, V.d none (ty122.depth + 1) (Ty.slice 122 ty122) x3,
 V.d none 0 (Ty.int IntKind.i64) x4, V.dead, V.dead, V.dead, V.dead, V.dead, V.dead, V.dead, V.dead, V.dead, V.dead,
 V.dead, V.dead, V.dead, V.dead, V.dead, V.dead, V.dead, V.dead]
noncomputable def Sw_toSupportS (a0 : List Sup) : Option ((List Sup × PUnit) × PUnit) := Fw_toSupportS.sem (a0, ())
def jw_toSupportS : List (Nat × List Nat) := [(1000003, [1, 1, 0, 1, 0])]
theorem jw_toSupportS_ok : okB jw_toSupportS (Tryz.f61.body.getD .skip) [] = true := by kernel_rfl
theorem Lw_toSupportS_3_eq (x0 : List Sup) (x3 : List Sup) (x4 : Int) : Lw_toSupportS_3 x0 x3 x4 =
  bif decide (x4 < (↑x0.length : Int)) then
 (getI x0 x4).bind fun y =>
  (Sw_toSupport y).bind fun y =>
   (getI x3 x4).bind fun y_1 =>
    (getI x3 x4).bind fun y_2 =>
     (getI x3 x4).bind fun y_3 =>
      (some (x3.set x4.toNat y.fst.fst)).bind fun y => Lw_toSupportS_3 x0 y (IntKind.i64.wrap (x4 + 1))
else some ((x3, ()), ()) := (turn_eq jw_toSupportS_ok [1, 1, 0, 1, 0] (by kernel_rfl) _).trans (by kernel_rfl)
theorem Sw_toSupportS_eq (a0 : List Sup) : Sw_toSupportS a0 =
  bif
  decide (0 ≤ (↑a0.length : Int)) && decide ((↑a0.length : Int) ≤ (↑a0.length : Int)) &&
    decide ((↑a0.length : Int) * (↑56 : Int) ≤ 140737488355328) &&
   decide ((↑a0.length : Int) ≤ 9223372036854775807) then
 Lw_toSupportS_3 a0 (List.replicate a0.length ((0, []), [])) 0
else none := (Eq.trans (by kernel_rfl : Sw_toSupportS a0 = denK Ew_toSupportS (Tryz.f61.body.getD .skip) Kw_toSupportS (slots0 23 [(ty38, Mode.ro)] (a0, ()))) (all_eq jw_toSupportS_ok _)).trans (by kernel_rfl)
noncomputable def Ew_toView : Env := mkEnv C tab_w_toSupportS [0, 1, 2, 3, 4, 8] 13
 (fun k => bif k == 2 then some 14 else bif k == 3 then some 14 else bif k == 4 then some 12 else none)
 (Hints.mk (fun x x_1 => none) (fun s => Nat.testBit 14 s) fun r =>
  bif r == 1 then [5, 9] else bif r == 2 then [] else bif r == 3 then [12] else [])
 [(ty40, Mode.ro)]
noncomputable def Kw_toView := endK C [(ty40, Mode.ro)] [(ty46, 3)] [RV.cell 2 46]
noncomputable def Sw_toView (a0 : Viw) : Option ((Viw ×
  PUnit) ×
 PUnit) := Fw_toView.sem (a0, ())
theorem Sw_toView_eq (a0 : Viw) : Sw_toView a0 =
  (Sw_toNodeS a0.fst).bind fun y => (Sw_toSupportS a0.snd).bind fun y_1 => some (((y.fst.fst, y_1.fst.fst), ()), ()) := by kernel_rfl
noncomputable def Es_l1In : Env := mkEnv C tab_w_toView [0, 1, 2, 3, 4, 5] 15 (fun x => none)
 (Hints.mk (fun x x_1 => none) (fun s => Nat.testBit 0 s) fun x => []) [(ty3, Mode.ro), (ty3, Mode.ro), (ty3, Mode.ro)]
noncomputable def Ks_l1In := endK C [(ty3, Mode.ro), (ty3, Mode.ro), (ty3, Mode.ro)] [(ty4, 0)] [RV.tmp 6]
noncomputable def Ss_l1In (a0 : Int) (a1 : Int) (a2 : Int) : Option ((Bool × PUnit) × PUnit) := Fs_l1In.sem (a0, a1, a2, ())
theorem Ss_l1In_eq (a0 : Int) (a1 : Int) (a2 : Int) : Ss_l1In a0 a1 a2 =
  bif decide (a0 ≥ a1) then some ((decide (a0 ≤ a2), ()), ()) else some ((false, ()), ()) := by kernel_rfl
noncomputable def Es_IsNumber : Env := mkEnv C tab_s_l1In [0, 1] 5 (fun x => none) (Hints.mk (fun x x_1 => none) (fun s => Nat.testBit 0 s) fun x => [])
 [(ty3, Mode.ro)]
noncomputable def Ks_IsNumber := endK C [(ty3, Mode.ro)] [(ty4, 0)] [RV.tmp 2]
noncomputable def Ss_IsNumber (a0 : Int) : Option ((Bool × PUnit) × PUnit) := Fs_IsNumber.sem (a0, ())
theorem Ss_IsNumber_eq (a0 : Int) : Ss_IsNumber a0 =
  (Ss_l1In a0 (-400000000) 400000000).bind fun y => some ((y.fst.fst, ()), ()) := by kernel_rfl
noncomputable def Es_l1Abs : Env := mkEnv C tab_s_IsNumber [0, 1] 7 (fun x => none) (Hints.mk (fun x x_1 => none) (fun s => Nat.testBit 0 s) fun x => [])
 [(ty3, Mode.ro)]
noncomputable def Ks_l1Abs := endK C [(ty3, Mode.ro)] [(ty3, 0)] [RV.tmp 2]
noncomputable def Ss_l1Abs (a0 : Int) : Option ((Int × PUnit) × PUnit) := Fs_l1Abs.sem (a0, ())
theorem Ss_l1Abs_eq (a0 : Int) : Ss_l1Abs a0 =
  some
 ((bif true then if a0 < IntKind.i64.wrap (0 - a0) then IntKind.i64.wrap (0 - a0) else a0
   else if IntKind.i64.wrap (0 - a0) < a0 then IntKind.i64.wrap (0 - a0) else a0,
   ()),
  ()) := by kernel_rfl
noncomputable def Es_l2Gcd : Env := mkEnv C tab_s_l1Abs [0, 1, 2, 3, 5, 6, 7, 16, 18] 28
 (fun k => bif k == 1000003 then some 97 else bif k == 1000006 then some 225 else none)
 (Hints.mk (fun x x_1 => none) (fun s => Nat.testBit 0 s) fun x => []) [(ty59, Mode.ro), (ty3, Mode.ro)]
noncomputable def Ks_l2Gcd := endK C [(ty59, Mode.ro), (ty3, Mode.ro)] [(ty3, 0)] [RV.tmp 4]
noncomputable def Ls_l2Gcd_6 (x0 : List Int) (x5 : Int) (x6 : Int) (x7 : Int) : Option ((Int × PUnit) × PUnit) := loopAt Es_l2Gcd [1, 1, 0, 1, 0, 0, 1, 0, 0, 1, 0] (Tryz.f88.body.getD .skip) Ks_l2Gcd [V.d none 0 ty59 x0, V.dead, V.dead, V.dead, V.dead, V.d none 0 ty3 x5, V.d none 0 (Ty.int IntKind.i64) x6,
 V.d none 0 ty3 x7, V.dead, V.dead, V.dead, V.dead, V.dead, V.dead, V.dead, V.dead, V.dead, V.dead, V.dead, V.dead,
 V.dead, V.dead, V.dead, V.dead, V.dead, V.dead, V.dead, V.dead]
noncomputable def Ls_l2Gcd_3 (x0 : List Int) (x5 : Int) (x6 : Int) : Option ((Int × PUnit) × PUnit) := loopAt Es_l2Gcd [1, 1, 0, 1, 0] (Tryz.f88.body.getD .skip) Ks_l2Gcd [V.d none 0 ty59 x0, V.dead, V.dead, V.dead, V.dead, V.d none 0 ty3 x5, V.d none 0 (Ty.int IntKind.i64) x6, V.dead,
 V.dead, V.dead, V.dead, V.dead, V.dead, V.dead, V.dead, V.dead, V.dead, V.dead, V.dead, V.dead, V.dead, V.dead, V.dead,
 V.dead, V.dead, V.dead, V.dead, V.dead]
noncomputable def Ss_l2Gcd (a0 : List Int) (a1 : Int) : Option ((Int × PUnit) × PUnit) := Fs_l2Gcd.sem (a0, a1, ())
def js_l2Gcd : List (Nat × List Nat) := [(1000003, [1, 1, 0, 1, 0]), (1000006, [1, 1, 0, 1, 0, 0, 1, 0, 0, 1, 0])]
theorem js_l2Gcd_ok : okB js_l2Gcd (Tryz.f88.body.getD .skip) [] = true := by kernel_rfl
theorem Ls_l2Gcd_6_eq (x0 : List Int) (x5 : Int) (x6 : Int) (x7 : Int) : Ls_l2Gcd_6 x0 x5 x6 x7 =
  bif x7 != 0 then bif x7 != 0 then Ls_l2Gcd_6 x0 x7 x6 (x5.tmod x7) else none
else Ls_l2Gcd_3 x0 x5 (IntKind.i64.wrap (x6 + 1)) := (turn_eq js_l2Gcd_ok [1, 1, 0, 1, 0, 0, 1, 0, 0, 1, 0] (by kernel_rfl) _).trans (by kernel_rfl)
theorem Ls_l2Gcd_3_eq (x0 : List Int) (x5 : Int) (x6 : Int) : Ls_l2Gcd_3 x0 x5 x6 =
  bif decide (x6 < (↑x0.length : Int)) then
 (getI x0 x6).bind fun y => (Ss_l1Abs y).bind fun y => Ls_l2Gcd_6 x0 x5 x6 y.fst.fst
else some ((x5, ()), ()) := (turn_eq js_l2Gcd_ok [1, 1, 0, 1, 0] (by kernel_rfl) _).trans (by kernel_rfl)
theorem Ss_l2Gcd_eq (a0 : List Int) (a1 : Int) : Ss_l2Gcd a0 a1 =
  (Ss_l1Abs a1).bind fun y => Ls_l2Gcd_3 a0 y.fst.fst 0 := (Eq.trans (by kernel_rfl : Ss_l2Gcd a0 a1 = denK Es_l2Gcd (Tryz.f88.body.getD .skip) Ks_l2Gcd (slots0 28 [(ty59, Mode.ro), (ty3, Mode.ro)] (a0, a1, ()))) (all_eq js_l2Gcd_ok _)).trans (by kernel_rfl)
noncomputable def Es_IsAtom : Env := mkEnv C tab_s_l2Gcd [0, 1, 3, 4, 9, 15, 21, 22, 24, 28, 30] 34
 (fun k => bif k == 1 then some 6 else bif k == 4 then some 14 else bif k == 1000004 then some 10 else none)
 (Hints.mk (fun x x_1 => none) (fun s => Nat.testBit 2 s) fun r => bif r == 1 then [5, 16, 22, 24, 29] else [])
 [(ty85, Mode.ro)]
noncomputable def Ks_IsAtom := endK C [(ty85, Mode.ro)] [(ty4, 0)] [RV.tmp 2]
noncomputable def Ls_IsAtom_4 (x1 : Atm) (x3 : Int) : Option ((Bool × PUnit) × PUnit) := loopAt Es_IsAtom [1, 1, 0, 1, 0] (Tryz.f89.body.getD .skip) Ks_IsAtom [V.dead, V.box none 0 ty85 x1, V.dead, V.d none 0 (Ty.int IntKind.i64) x3, V.dead, V.dead, V.dead, V.dead, V.dead,
 V.dead, V.dead, V.dead, V.dead, V.dead, V.dead, V.dead, V.dead, V.dead, V.dead, V.dead, V.dead, V.dead, V.dead, V.dead,
 V.dead, V.dead, V.dead, V.dead, V.dead, V.dead, V.dead, V.dead, V.dead, V.dead]
noncomputable def Ss_IsAtom (a0 : Atm) : Option ((Bool × PUnit) × PUnit) := Fs_IsAtom.sem (a0, ())
def js_IsAtom : List (Nat × List Nat) := [(1000004, [1, 1, 0, 1, 0])]
theorem js_IsAtom_ok : okB js_IsAtom (Tryz.f89.body.getD .skip) [] = true := by kernel_rfl
theorem Ls_IsAtom_4_eq (x1 : Atm) (x3 : Int) : Ls_IsAtom_4 x1 x3 =
  bif decide (x3 < (↑(List.length x1.fst) : Int)) then
 (getI x1.fst x3).bind fun y =>
  (Ss_IsNumber y).bind fun y =>
   bif !y.fst.fst then some ((false, ()), ()) else Ls_IsAtom_4 x1 (IntKind.i64.wrap (x3 + 1))
else (Ss_l2Gcd x1.fst x1.snd.fst).bind fun y => some ((decide (y.fst.fst ≤ 1), ()), ()) := (turn_eq js_IsAtom_ok [1, 1, 0, 1, 0] (by kernel_rfl) _).trans (by kernel_rfl)
theorem Ss_IsAtom_eq (a0 : Atm) : Ss_IsAtom a0 =
  bif decide ((↑(List.length a0.fst) : Int) > 4) then some ((false, ()), ())
else (Ss_IsNumber a0.snd.fst).bind fun y => bif !y.fst.fst then some ((false, ()), ()) else Ls_IsAtom_4 a0 0 := (Eq.trans (by kernel_rfl : Ss_IsAtom a0 = denK Es_IsAtom (Tryz.f89.body.getD .skip) Ks_IsAtom (slots0 34 [(ty85, Mode.ro)] (a0, ()))) (all_eq js_IsAtom_ok _)).trans (by kernel_rfl)
noncomputable def Es_IsCell : Env := mkEnv C tab_s_IsAtom [0, 1, 3, 5, 11, 12, 14, 19, 20, 22, 23, 26, 30, 34] 39
 (fun k =>
  bif k == 2 then some 14
  else bif k == 4 then some 14 else bif k == 6 then some 6 else bif k == 1000002 then some 10 else none)
 (Hints.mk (fun x x_1 => none) (fun s => Nat.testBit 2 s) fun r =>
  bif r == 1 then [6, 12, 14, 15, 20, 22, 23, 24, 35] else [])
 [(ty83, Mode.ro)]
noncomputable def Ks_IsCell := endK C [(ty83, Mode.ro)] [(ty4, 0)] [RV.tmp 2]
noncomputable def Ls_IsCell_2 (x1 : Int × List Atm) (x3 : Int) : Option ((Bool × PUnit) × PUnit) := loopAt Es_IsCell [1, 0, 1, 0] (Tryz.f110.body.getD .skip) Ks_IsCell [V.dead, V.box none 0 ty83 x1, V.dead, V.d none 0 (Ty.int IntKind.i64) x3, V.dead, V.dead, V.dead, V.dead, V.dead,
 V.dead, V.dead, V.dead, V.dead, V.dead, V.dead, V.dead, V.dead, V.dead, V.dead, V.dead, V.dead, V.dead, V.dead, V.dead,
 V.dead, V.dead, V.dead, V.dead, V.dead, V.dead, V.dead, V.dead, V.dead, V.dead, V.dead, V.dead, V.dead, V.dead, V.dead]
noncomputable def Ss_IsCell (a0 : Int × List Atm) : Option ((Bool × PUnit) × PUnit) := Fs_IsCell.sem (a0, ())
def js_IsCell : List (Nat × List Nat) := [(1000002, [1, 0, 1, 0])]
theorem js_IsCell_ok : okB js_IsCell (Tryz.f110.body.getD .skip) [] = true := by kernel_rfl
theorem Ls_IsCell_2_eq (x1 : Int × List Atm) (x3 : Int) : Ls_IsCell_2 x1 x3 =
  bif decide (x3 < (↑(List.length x1.snd) : Int)) then
 (getI x1.snd x3).bind fun y =>
  (Ss_IsAtom y).bind fun y =>
   bif !y.fst.fst then some ((false, ()), ())
   else
    (getI x1.snd x3).bind fun y =>
     bif (↑(List.length y.fst) : Int) != x1.fst then some ((false, ()), ())
     else Ls_IsCell_2 x1 (IntKind.i64.wrap (x3 + 1))
else
 (Ss_l1In x1.fst 0 4).bind fun y =>
  bif y.fst.fst then some ((decide ((↑(List.length x1.snd) : Int) ≤ 16), ()), ()) else some ((false, ()), ()) := (turn_eq js_IsCell_ok [1, 0, 1, 0] (by kernel_rfl) _).trans (by kernel_rfl)
theorem Ss_IsCell_eq (a0 : Int × List Atm) : Ss_IsCell a0 =
  Ls_IsCell_2 a0 0 := (Eq.trans (by kernel_rfl : Ss_IsCell a0 = denK Es_IsCell (Tryz.f110.body.getD .skip) Ks_IsCell (slots0 39 [(ty83, Mode.ro)] (a0, ()))) (all_eq js_IsCell_ok _)).trans (by kernel_rfl)
noncomputable def Es_l5Word : Env := mkEnv C tab_s_IsCell [0, 1, 2, 3, 4, 5, 7] 29 (fun k => bif k == 1000002 then some 135 else none)
 (Hints.mk (fun x x_1 => none) (fun s => Nat.testBit 0 s) fun x => []) [(ty9, Mode.ro), (ty5, Mode.ro), (ty5, Mode.ro)]
noncomputable def Ks_l5Word := endK C [(ty9, Mode.ro), (ty5, Mode.ro), (ty5, Mode.ro)] [(ty4, 0)] [RV.tmp 6]
noncomputable def Ls_l5Word_2 (x0 : ByteArray) (x1 : Int) (x2 : Int) (x7 : Int) : Option ((Bool × PUnit) × PUnit) := loopAt Es_l5Word [1, 0, 1, 0] (Tryz.f203.body.getD .skip) Ks_l5Word [V.d none 0 ty9 x0, V.d none 0 ty5 x1, V.d none 0 ty5 x2, V.dead, V.dead, V.dead, V.dead,
 V.d none 0 (Ty.int IntKind.i64) x7, V.dead, V.dead, V.dead, V.dead, V.dead, V.dead, V.dead, V.dead, V.dead, V.dead,
 V.dead, V.dead, V.dead, V.dead, V.dead, V.dead, V.dead, V.dead, V.dead, V.dead, V.dead]
noncomputable def Ss_l5Word (a0 : ByteArray) (a1 : Int) (a2 : Int) : Option ((Bool × PUnit) × PUnit) := Fs_l5Word.sem (a0, a1, a2, ())
def js_l5Word : List (Nat × List Nat) := [(1000002, [1, 0, 1, 0])]
theorem js_l5Word_ok : okB js_l5Word (Tryz.f203.body.getD .skip) [] = true := by kernel_rfl
theorem Ls_l5Word_2_eq (x0 : ByteArray) (x1 : Int) (x2 : Int) (x7 : Int) : Ls_l5Word_2 x0 x1 x2 x7 =
  bif decide (x7 < (↑x0.size : Int)) then
 (getB x0 x7).bind fun y =>
  bif decide (y < x1) then some ((false, ()), ())
  else
   (getB x0 x7).bind fun y =>
    bif decide (y > x2) then some ((false, ()), ()) else Ls_l5Word_2 x0 x1 x2 (IntKind.i64.wrap (x7 + 1))
else (Ss_l1In (↑x0.size : Int) 1 6).bind fun y => some ((y.fst.fst, ()), ()) := (turn_eq js_l5Word_ok [1, 0, 1, 0] (by kernel_rfl) _).trans (by kernel_rfl)
theorem Ss_l5Word_eq (a0 : ByteArray) (a1 : Int) (a2 : Int) : Ss_l5Word a0 a1 a2 =
  Ls_l5Word_2 a0 a1 a2 0 := (Eq.trans (by kernel_rfl : Ss_l5Word a0 a1 a2 = denK Es_l5Word (Tryz.f203.body.getD .skip) Ks_l5Word (slots0 29 [(ty9, Mode.ro), (ty5, Mode.ro), (ty5, Mode.ro)] (a0, a1, a2, ()))) (all_eq js_l5Word_ok _)).trans (by kernel_rfl)
noncomputable def Es_IsRelation : Env := mkEnv C tab_s_l5Word [0, 1, 3, 5, 11, 12, 14, 15, 20, 21, 23, 24, 30, 31, 33, 34, 35, 37, 41, 45, 50] 55
 (fun k => bif k == 2 then some 14 else bif k == 6 then some 6 else bif k == 1000002 then some 10 else none)
 (Hints.mk (fun x x_1 => none) (fun s => Nat.testBit 2 s) fun r =>
  bif r == 1 then [6, 12, 14, 15, 21, 23, 24, 25, 31, 33, 34, 35, 51] else [])
 [(ty117, Mode.ro)]
noncomputable def Ks_IsRelation := endK C [(ty117, Mode.ro)] [(ty4, 0)] [RV.tmp 2]
noncomputable def Ls_IsRelation_2 (x1 : ByteArray × Int × List Rw) (x3 : Int) : Option ((Bool × PUnit) × PUnit) := loopAt Es_IsRelation [1, 0, 1, 0] (Tryz.f200.body.getD .skip) Ks_IsRelation [V.dead, V.box none 0 ty117 x1, V.dead, V.d none 0 (Ty.int IntKind.i64) x3, V.dead, V.dead, V.dead, V.dead, V.dead,
 V.dead, V.dead, V.dead, V.dead, V.dead, V.dead, V.dead, V.dead, V.dead, V.dead, V.dead, V.dead, V.dead, V.dead, V.dead,
 V.dead, V.dead, V.dead, V.dead, V.dead, V.dead, V.dead, V.dead, V.dead, V.dead, V.dead, V.dead, V.dead, V.dead, V.dead,
 V.dead, V.dead, V.dead, V.dead, V.dead, V.dead, V.dead, V.dead, V.dead, V.dead, V.dead, V.dead, V.dead, V.dead, V.dead,
 V.dead]
noncomputable def Ss_IsRelation (a0 : ByteArray × Int × List Rw) : Option ((Bool × PUnit) × PUnit) := Fs_IsRelation.sem (a0, ())
def js_IsRelation : List (Nat × List Nat) := [(1000002, [1, 0, 1, 0])]
theorem js_IsRelation_ok : okB js_IsRelation (Tryz.f200.body.getD .skip) [] = true := by kernel_rfl
theorem Ls_IsRelation_2_eq (x1 : ByteArray × Int × List Rw) (x3 : Int) : Ls_IsRelation_2 x1 x3 =
  bif decide (x3 < (↑(List.length x1.snd.snd) : Int)) then
 (getI x1.snd.snd x3).bind fun y =>
  (Ss_l5Word y.fst 97 122).bind fun y =>
   bif !y.fst.fst then some ((false, ()), ())
   else
    (getI x1.snd.snd x3).bind fun y =>
     (Ss_IsCell y.snd).bind fun y =>
      bif !y.fst.fst then some ((false, ()), ())
      else
       (getI x1.snd.snd x3).bind fun y =>
        bif y.snd.fst != x1.snd.fst then some ((false, ()), ()) else Ls_IsRelation_2 x1 (IntKind.i64.wrap (x3 + 1))
else
 (Ss_l5Word x1.fst 65 90).bind fun y =>
  bif y.fst.fst then
   (Ss_l1In x1.snd.fst 0 4).bind fun y =>
    bif y.fst.fst then some ((decide ((↑(List.length x1.snd.snd) : Int) ≤ 8), ()), ()) else some ((false, ()), ())
  else some ((false, ()), ()) := (turn_eq js_IsRelation_ok [1, 0, 1, 0] (by kernel_rfl) _).trans (by kernel_rfl)
theorem Ss_IsRelation_eq (a0 : ByteArray × Int × List Rw) : Ss_IsRelation a0 =
  Ls_IsRelation_2 a0 0 := (Eq.trans (by kernel_rfl : Ss_IsRelation a0 = denK Es_IsRelation (Tryz.f200.body.getD .skip) Ks_IsRelation (slots0 55 [(ty117, Mode.ro)] (a0, ()))) (all_eq js_IsRelation_ok _)).trans (by kernel_rfl)
noncomputable def Es_FindRelation : Env := mkEnv C tab_s_IsRelation [0, 1, 2, 3, 5, 12, 14, 15] 20 (fun k => bif k == 1000002 then some 35 else none)
 (Hints.mk (fun x x_1 => none) (fun s => Nat.testBit 0 s) fun x => []) [(ty49, Mode.ro), (ty9, Mode.ro)]
noncomputable def Ks_FindRelation := endK C [(ty49, Mode.ro), (ty9, Mode.ro)] [(ty3, 0)] [RV.tmp 4]
noncomputable def Ls_FindRelation_2 (x0 : List Rel) (x1 : ByteArray) (x5 : Int) : Option ((Int × PUnit) × PUnit) := loopAt Es_FindRelation [1, 0, 1, 0] (Tryz.f201.body.getD .skip) Ks_FindRelation [V.d none 0 ty49 x0, V.d none 0 ty9 x1, V.dead, V.dead, V.dead, V.d none 0 (Ty.int IntKind.i64) x5, V.dead, V.dead,
 V.dead, V.dead, V.dead, V.dead, V.dead, V.dead, V.dead, V.dead, V.dead, V.dead, V.dead, V.dead]
noncomputable def Ss_FindRelation (a0 : List Rel) (a1 : ByteArray) : Option ((Int × PUnit) × PUnit) := Fs_FindRelation.sem (a0, a1, ())
def js_FindRelation : List (Nat × List Nat) := [(1000002, [1, 0, 1, 0])]
theorem js_FindRelation_ok : okB js_FindRelation (Tryz.f201.body.getD .skip) [] = true := by kernel_rfl
theorem Ls_FindRelation_2_eq (x0 : List Rel) (x1 : ByteArray) (x5 : Int) : Ls_FindRelation_2 x0 x1 x5 =
  bif decide (x5 < (↑x0.length : Int)) then
 (getI x0 x5).bind fun y =>
  bif ByteArray.toList y.fst == x1.toList then some ((x5, ()), ())
  else Ls_FindRelation_2 x0 x1 (IntKind.i64.wrap (x5 + 1))
else some ((-1, ()), ()) := (turn_eq js_FindRelation_ok [1, 0, 1, 0] (by kernel_rfl) _).trans (by kernel_rfl)
theorem Ss_FindRelation_eq (a0 : List Rel) (a1 : ByteArray) : Ss_FindRelation a0 a1 =
  Ls_FindRelation_2 a0 a1 0 := (Eq.trans (by kernel_rfl : Ss_FindRelation a0 a1 = denK Es_FindRelation (Tryz.f201.body.getD .skip) Ks_FindRelation (slots0 20 [(ty49, Mode.ro), (ty9, Mode.ro)] (a0, a1, ()))) (all_eq js_FindRelation_ok _)).trans (by kernel_rfl)
noncomputable def Es_IsDatabase : Env := mkEnv C tab_s_FindRelation [0, 1, 3, 10, 12, 17, 20, 22, 23] 31 (fun k => bif k == 1000002 then some 9 else none)
 (Hints.mk (fun x x_1 => none) (fun s => Nat.testBit 0 s) fun x => []) [(ty49, Mode.ro)]
noncomputable def Ks_IsDatabase := endK C [(ty49, Mode.ro)] [(ty4, 0)] [RV.tmp 2]
noncomputable def Ls_IsDatabase_2 (x0 : List Rel) (x3 : Int) : Option ((Bool × PUnit) × PUnit) := loopAt Es_IsDatabase [1, 0, 1, 0] (Tryz.f185.body.getD .skip) Ks_IsDatabase [V.d none 0 ty49 x0, V.dead, V.dead, V.d none 0 (Ty.int IntKind.i64) x3, V.dead, V.dead, V.dead, V.dead, V.dead, V.dead,
 V.dead, V.dead, V.dead, V.dead, V.dead, V.dead, V.dead, V.dead, V.dead, V.dead, V.dead, V.dead, V.dead, V.dead, V.dead,
 V.dead, V.dead, V.dead, V.dead, V.dead, V.dead]
noncomputable def Ss_IsDatabase (a0 : List Rel) : Option ((Bool × PUnit) × PUnit) := Fs_IsDatabase.sem (a0, ())
def js_IsDatabase : List (Nat × List Nat) := [(1000002, [1, 0, 1, 0])]
theorem js_IsDatabase_ok : okB js_IsDatabase (Tryz.f185.body.getD .skip) [] = true := by kernel_rfl
theorem Ls_IsDatabase_2_eq (x0 : List Rel) (x3 : Int) : Ls_IsDatabase_2 x0 x3 =
  bif decide (x3 < (↑x0.length : Int)) then
 (getI x0 x3).bind fun y =>
  (Ss_IsRelation y).bind fun y =>
   bif !y.fst.fst then some ((false, ()), ())
   else
    bif decide (0 ≤ 0) && decide (0 ≤ x3) && decide (x3 ≤ (↑x0.length : Int)) then
     (getI x0 x3).bind fun y =>
      (Ss_FindRelation (List.drop (Int.toNat 0) (List.take x3.toNat x0)) y.fst).bind fun y =>
       bif decide (y.fst.fst ≥ 0) then some ((false, ()), ()) else Ls_IsDatabase_2 x0 (IntKind.i64.wrap (x3 + 1))
    else none
else some ((decide ((↑x0.length : Int) ≤ 6), ()), ()) := (turn_eq js_IsDatabase_ok [1, 0, 1, 0] (by kernel_rfl) _).trans (by kernel_rfl)
theorem Ss_IsDatabase_eq (a0 : List Rel) : Ss_IsDatabase a0 =
  Ls_IsDatabase_2 a0 0 := (Eq.trans (by kernel_rfl : Ss_IsDatabase a0 = denK Es_IsDatabase (Tryz.f185.body.getD .skip) Ks_IsDatabase (slots0 31 [(ty49, Mode.ro)] (a0, ()))) (all_eq js_IsDatabase_ok _)).trans (by kernel_rfl)
noncomputable def Es_l5NoAtom : Env := mkEnv C tab_s_IsDatabase [0, 1, 3, 8, 13] 17 (fun k => bif k == 1 then some 6 else none)
 (Hints.mk (fun x x_1 => none) (fun s => Nat.testBit 2 s) fun r => bif r == 1 then [4] else []) [(ty85, Mode.ro)]
noncomputable def Ks_l5NoAtom := endK C [(ty85, Mode.ro)] [(ty4, 0)] [RV.tmp 2]
noncomputable def Ss_l5NoAtom (a0 : Atm) : Option ((Bool × PUnit) × PUnit) := Fs_l5NoAtom.sem (a0, ())
theorem Ss_l5NoAtom_eq (a0 : Atm) : Ss_l5NoAtom a0 =
  bif (↑(List.length a0.fst) : Int) == 0 then
 bif a0.snd.fst == 0 then some ((!a0.snd.snd, ()), ()) else some ((false, ()), ())
else some ((false, ()), ()) := by kernel_rfl
noncomputable def Es_l5Node : Env := mkEnv C tab_s_l5NoAtom
 (have y :=
  have y :=
   have y := [117, 123, 127, 132, 136];
   103 :: 105 :: 112 :: 114 :: 115 :: y;
  have y := 83 :: 84 :: 92 :: 96 :: 102 :: y;
  66 :: 70 :: 75 :: 79 :: y;
 have y :=
  have y := 41 :: 46 :: 51 :: 55 :: 60 :: y;
  21 :: 25 :: 30 :: 37 :: y;
 have y := 5 :: 6 :: 7 :: 11 :: 17 :: y;
 0 :: 1 :: 2 :: 3 :: y)
 140
 (fun k =>
  bif k == 1 then some 25
  else
   bif k == 7 then some 24
   else
    bif k == 11 then some 121
    else
     bif k == 15 then some 57
     else bif k == 1000011 then some 105 else bif k == 2000003 then some 9 else bif k == 2000005 then some 9 else none)
 (Hints.mk (fun x x_1 => none) (fun s => Nat.testBit 8 s) fun r =>
  bif r == 3 then [12, 31, 80, 85, 97, 103, 105, 118] else [])
 [(ty49, Mode.ro), (ty173, Mode.ro)]
noncomputable def Ks_l5Node := endK C [(ty49, Mode.ro), (ty173, Mode.ro)] [(ty4, 0)] [RV.tmp 4]
noncomputable def Ls_l5Node_11 (x0 : List Rel) (x3 : Int × Atm × ByteArray × ByteArray × List Int × Int × Int × Int) (x5 : Int) (x6 : Int) : Option ((Bool × PUnit) × PUnit) := loopAt Es_l5Node [1, 1, 1, 0, 1, 0, 1, 1, 1, 0, 1, 0, 1, 0] (Tryz.f186.body.getD .skip) Ks_l5Node [V.d none 0 ty49 x0, V.dead, V.dead, V.box none 0 ty173 x3, V.dead, V.d none 0 ty3 x5,
 V.d none 0 (Ty.int IntKind.i64) x6, V.dead, V.dead, V.dead, V.dead, V.dead, V.dead, V.dead, V.dead, V.dead, V.dead,
 V.dead, V.dead, V.dead, V.dead, V.dead, V.dead, V.dead, V.dead, V.dead, V.dead, V.dead, V.dead, V.dead, V.dead, V.dead,
 V.dead, V.dead, V.dead, V.dead, V.dead, V.dead, V.dead, V.dead, V.dead, V.dead, V.dead, V.dead, V.dead, V.dead, V.dead,
 V.dead, V.dead, V.dead, V.dead, V.dead, V.dead, V.dead, V.dead, V.dead, V.dead, V.dead, V.dead, V.dead, V.dead, V.dead,
 V.dead, V.dead, V.dead, V.dead, V.dead, V.dead, V.dead, V.dead, V.dead, V.dead, V.dead, V.dead, V.dead, V.dead, V.dead,
 V.dead, V.dead, V.dead, V.dead, V.dead, V.dead, V.dead, V.dead, V.dead, V.dead, V.dead, V.dead, V.dead, V.dead, V.dead,
 V.dead, V.dead, V.dead, V.dead, V.dead, V.dead, V.dead, V.dead, V.dead, V.dead, V.dead, V.dead, V.dead, V.dead, V.dead,
 V.dead, V.dead, V.dead, V.dead, V.dead, V.dead, V.dead, V.dead, V.dead, V.dead, V.dead, V.dead, V.dead, V.dead, V.dead,
 V.dead, V.dead, V.dead, V.dead, V.dead, V.dead, V.dead, V.dead, V.dead, V.dead, V.dead, V.dead, V.dead, V.dead, V.dead,
 V.dead, V.dead, V.dead]
noncomputable def Js_l5Node_5 (x0 : List Rel) (x3 : Int × Atm × ByteArray × ByteArray × List Int × Int × Int × Int) : Option ((Bool × PUnit) × PUnit) := joinAt Es_l5Node [1, 1, 1] (Tryz.f186.body.getD .skip) Ks_l5Node [V.d none 0 ty49 x0, V.dead, V.dead, V.box none 0 ty173 x3, V.dead, V.dead, V.dead, V.dead, V.dead, V.dead, V.dead,
 V.dead, V.dead, V.dead, V.dead, V.dead, V.dead, V.dead, V.dead, V.dead, V.dead, V.dead, V.dead, V.dead, V.dead, V.dead,
 V.dead, V.dead, V.dead, V.dead, V.dead, V.dead, V.dead, V.dead, V.dead, V.dead, V.dead, V.dead, V.dead, V.dead, V.dead,
 V.dead, V.dead, V.dead, V.dead, V.dead, V.dead, V.dead, V.dead, V.dead, V.dead, V.dead, V.dead, V.dead, V.dead, V.dead,
 V.dead, V.dead, V.dead, V.dead, V.dead, V.dead, V.dead, V.dead, V.dead, V.dead, V.dead, V.dead, V.dead, V.dead, V.dead,
 V.dead, V.dead, V.dead, V.dead, V.dead, V.dead, V.dead, V.dead, V.dead, V.dead, V.dead, V.dead, V.dead, V.dead, V.dead,
 V.dead, V.dead, V.dead, V.dead, V.dead, V.dead, V.dead, V.dead, V.dead, V.dead, V.dead, V.dead, V.dead, V.dead, V.dead,
 V.dead, V.dead, V.dead, V.dead, V.dead, V.dead, V.dead, V.dead, V.dead, V.dead, V.dead, V.dead, V.dead, V.dead, V.dead,
 V.dead, V.dead, V.dead, V.dead, V.dead, V.dead, V.dead, V.dead, V.dead, V.dead, V.dead, V.dead, V.dead, V.dead, V.dead,
 V.dead, V.dead, V.dead, V.dead, V.dead, V.dead, V.dead, V.dead, V.dead]
noncomputable def Js_l5Node_3 (x0 : List Rel) (x3 : Int × Atm × ByteArray × ByteArray × List Int × Int × Int × Int) : Option ((Bool × PUnit) × PUnit) := joinAt Es_l5Node [1, 1] (Tryz.f186.body.getD .skip) Ks_l5Node [V.d none 0 ty49 x0, V.dead, V.dead, V.box none 0 ty173 x3, V.dead, V.dead, V.dead, V.dead, V.dead, V.dead, V.dead,
 V.dead, V.dead, V.dead, V.dead, V.dead, V.dead, V.dead, V.dead, V.dead, V.dead, V.dead, V.dead, V.dead, V.dead, V.dead,
 V.dead, V.dead, V.dead, V.dead, V.dead, V.dead, V.dead, V.dead, V.dead, V.dead, V.dead, V.dead, V.dead, V.dead, V.dead,
 V.dead, V.dead, V.dead, V.dead, V.dead, V.dead, V.dead, V.dead, V.dead, V.dead, V.dead, V.dead, V.dead, V.dead, V.dead,
 V.dead, V.dead, V.dead, V.dead, V.dead, V.dead, V.dead, V.dead, V.dead, V.dead, V.dead, V.dead, V.dead, V.dead, V.dead,
 V.dead, V.dead, V.dead, V.dead, V.dead, V.dead, V.dead, V.dead, V.dead, V.dead, V.dead, V.dead, V.dead, V.dead, V.dead,
 V.dead, V.dead, V.dead, V.dead, V.dead, V.dead, V.dead, V.dead, V.dead, V.dead, V.dead, V.dead, V.dead, V.dead, V.dead,
 V.dead, V.dead, V.dead, V.dead, V.dead, V.dead, V.dead, V.dead, V.dead, V.dead, V.dead, V.dead, V.dead, V.dead, V.dead,
 V.dead, V.dead, V.dead, V.dead, V.dead, V.dead, V.dead, V.dead, V.dead, V.dead, V.dead, V.dead, V.dead, V.dead, V.dead,
 V.dead, V.dead, V.dead, V.dead, V.dead, V.dead, V.dead, V.dead, V.dead]
noncomputable def Ss_l5Node (a0 : List Rel) (a1 : Int × Atm × ByteArray × ByteArray × List Int × Int × Int × Int) : Option ((Bool × PUnit) × PUnit) := Fs_l5Node.sem (a0, a1, ())
def js_l5Node : List (Nat × List Nat) := [(2000003, [1, 1]), (2000005, [1, 1, 1]), (1000011, [1, 1, 1, 0, 1, 0, 1, 1, 1, 0, 1, 0, 1, 0])]
theorem js_l5Node_ok : okB js_l5Node (Tryz.f186.body.getD .skip) [] = true := by kernel_rfl
theorem Ls_l5Node_11_eq (x0 : List Rel) (x3 : Int × Atm × ByteArray × ByteArray × List Int × Int × Int × Int) (x5 : Int) (x6 : Int) : Ls_l5Node_11 x0 x3 x5 x6 =
  bif decide (x6 < (↑(List.length x3.snd.snd.snd.snd.fst) : Int)) then
 (getI x3.snd.snd.snd.snd.fst x6).bind fun y =>
  (Ss_l1In y 0 3).bind fun y =>
   bif !y.fst.fst then some ((false, ()), ()) else Ls_l5Node_11 x0 x3 x5 (IntKind.i64.wrap (x6 + 1))
else
 bif decide (x5 ≥ 0) then
  (getI x0 x5).bind fun y =>
   bif y.snd.fst == (↑(List.length x3.snd.snd.snd.snd.fst) : Int) then
    bif ByteArray.toList x3.snd.snd.snd.fst == (ByteArray.mk #[]).toList then some ((true, ()), ())
    else (Ss_l5Word x3.snd.snd.snd.fst 97 122).bind fun y => some ((y.fst.fst, ()), ())
   else some ((false, ()), ())
 else some ((false, ()), ()) := (turn_eq js_l5Node_ok [1, 1, 1, 0, 1, 0, 1, 1, 1, 0, 1, 0, 1, 0] (by kernel_rfl) _).trans (by kernel_rfl)
theorem Js_l5Node_5_eq (x0 : List Rel) (x3 : Int × Atm × ByteArray × ByteArray × List Int × Int × Int × Int) : Js_l5Node_5 x0 x3 =
  bif x3.fst == 0 then
 (Ss_IsAtom x3.snd.fst).bind fun y =>
  bif y.fst.fst then some (((↑(List.length x3.snd.fst.fst) : Int) == 4, ()), ()) else some ((false, ()), ())
else
 bif x3.fst == 1 then (Ss_FindRelation x0 x3.snd.snd.fst).bind fun y => Ls_l5Node_11 x0 x3 y.fst.fst 0
 else
  (Ss_l1In x3.fst 2 6).bind fun y =>
   bif y.fst.fst then (Ss_l1In x3.snd.snd.snd.snd.snd.fst 0 3).bind fun y => some ((y.fst.fst, ()), ())
   else some ((false, ()), ()) := (join_eq js_l5Node_ok [1, 1, 1] _).trans (by kernel_rfl)
theorem Js_l5Node_3_eq (x0 : List Rel) (x3 : Int × Atm × ByteArray × ByteArray × List Int × Int × Int × Int) : Js_l5Node_3 x0 x3 =
  bif x3.fst != 5 then
 bif x3.fst != 6 then
  bif x3.snd.snd.snd.snd.snd.fst != 0 then some ((false, ()), ())
  else
   bif x3.fst != 3 then
    bif x3.fst != 4 then
     bif x3.snd.snd.snd.snd.snd.snd.snd != 0 then some ((false, ()), ())
     else
      bif decide (x3.fst ≤ 1) then
       bif x3.snd.snd.snd.snd.snd.snd.fst != 0 then some ((false, ()), ()) else Js_l5Node_5 x0 x3
      else Js_l5Node_5 x0 x3
    else
     bif decide (x3.fst ≤ 1) then
      bif x3.snd.snd.snd.snd.snd.snd.fst != 0 then some ((false, ()), ()) else Js_l5Node_5 x0 x3
     else Js_l5Node_5 x0 x3
   else
    bif decide (x3.fst ≤ 1) then
     bif x3.snd.snd.snd.snd.snd.snd.fst != 0 then some ((false, ()), ()) else Js_l5Node_5 x0 x3
    else Js_l5Node_5 x0 x3
 else
  bif x3.fst != 3 then
   bif x3.fst != 4 then
    bif x3.snd.snd.snd.snd.snd.snd.snd != 0 then some ((false, ()), ())
    else
     bif decide (x3.fst ≤ 1) then
      bif x3.snd.snd.snd.snd.snd.snd.fst != 0 then some ((false, ()), ()) else Js_l5Node_5 x0 x3
     else Js_l5Node_5 x0 x3
   else
    bif decide (x3.fst ≤ 1) then
     bif x3.snd.snd.snd.snd.snd.snd.fst != 0 then some ((false, ()), ()) else Js_l5Node_5 x0 x3
    else Js_l5Node_5 x0 x3
  else
   bif decide (x3.fst ≤ 1) then
    bif x3.snd.snd.snd.snd.snd.snd.fst != 0 then some ((false, ()), ()) else Js_l5Node_5 x0 x3
   else Js_l5Node_5 x0 x3
else
 bif x3.fst != 3 then
  bif x3.fst != 4 then
   bif x3.snd.snd.snd.snd.snd.snd.snd != 0 then some ((false, ()), ())
   else
    bif decide (x3.fst ≤ 1) then
     bif x3.snd.snd.snd.snd.snd.snd.fst != 0 then some ((false, ()), ()) else Js_l5Node_5 x0 x3
    else Js_l5Node_5 x0 x3
  else
   bif decide (x3.fst ≤ 1) then
    bif x3.snd.snd.snd.snd.snd.snd.fst != 0 then some ((false, ()), ()) else Js_l5Node_5 x0 x3
   else Js_l5Node_5 x0 x3
 else
  bif decide (x3.fst ≤ 1) then
   bif x3.snd.snd.snd.snd.snd.snd.fst != 0 then some ((false, ()), ()) else Js_l5Node_5 x0 x3
  else Js_l5Node_5 x0 x3 := (join_eq js_l5Node_ok [1, 1] _).trans (by kernel_rfl)
theorem Ss_l5Node_eq (a0 : List Rel) (a1 : Int × Atm × ByteArray × ByteArray × List Int × Int × Int × Int) : Ss_l5Node a0 a1 =
  bif a1.fst != 0 then
 (Ss_l5NoAtom a1.snd.fst).bind fun y =>
  bif !y.fst.fst then some ((false, ()), ())
  else
   bif a1.fst != 1 then
    bif !ByteArray.toList a1.snd.snd.fst == (ByteArray.mk #[]).toList then some ((false, ()), ())
    else
     bif !ByteArray.toList a1.snd.snd.snd.fst == (ByteArray.mk #[]).toList then some ((false, ()), ())
     else
      bif decide ((↑(List.length a1.snd.snd.snd.snd.fst) : Int) > 0) then some ((false, ()), ()) else Js_l5Node_3 a0 a1
   else Js_l5Node_3 a0 a1
else
 bif a1.fst != 1 then
  bif !ByteArray.toList a1.snd.snd.fst == (ByteArray.mk #[]).toList then some ((false, ()), ())
  else
   bif !ByteArray.toList a1.snd.snd.snd.fst == (ByteArray.mk #[]).toList then some ((false, ()), ())
   else
    bif decide ((↑(List.length a1.snd.snd.snd.snd.fst) : Int) > 0) then some ((false, ()), ()) else Js_l5Node_3 a0 a1
 else Js_l5Node_3 a0 a1 := (Eq.trans (by kernel_rfl : Ss_l5Node a0 a1 = denK Es_l5Node (Tryz.f186.body.getD .skip) Ks_l5Node (slots0 140 [(ty49, Mode.ro), (ty173, Mode.ro)] (a0, a1, ()))) (all_eq js_l5Node_ok _)).trans (by kernel_rfl)
noncomputable def Es_IsFormula : Env := mkEnv C tab_s_l5Node
 (have y :=
  have y :=
   have y := [93, 95, 97, 98, 105];
   83 :: 85 :: 86 :: 90 :: y;
  have y := 66 :: 68 :: 69 :: 78 :: 81 :: y;
  48 :: 49 :: 61 :: 64 :: y;
 have y :=
  have y := 35 :: 39 :: 41 :: 42 :: 46 :: y;
  26 :: 28 :: 32 :: 34 :: y;
 have y := 5 :: 6 :: 7 :: 8 :: y;
 0 :: 1 :: 2 :: 3 :: y)
 117
 (fun k =>
  bif k == 1000005 then some 99 else bif k == 2000014 then some 227 else bif k == 2000017 then some 483 else none)
 (Hints.mk (fun x x_1 => none) (fun s => Nat.testBit 0 s) fun x => []) [(ty49, Mode.ro), (ty43, Mode.ro)]
noncomputable def Ks_IsFormula := endK C [(ty49, Mode.ro), (ty43, Mode.ro)] [(ty4, 0)] [RV.tmp 4]
noncomputable def Js_IsFormula_17 (x0 : List Rel) (x1 : List Nod) (x5 : List Int) (x6 : Int) (x7 : Int) (x8 : Int) : Option ((Bool × PUnit) × PUnit) := joinAt Es_IsFormula [1, 1, 1, 0, 1, 0, 0, 1, 0, 0, 1, 1, 1, 1, 1] (Tryz.f151.body.getD .skip) Ks_IsFormula [V.d none 0 ty49 x0, V.d none 0 ty43 x1, V.dead, V.dead, V.dead, V.d none (ty3.depth + 1) (Ty.slice 3 ty3) x5,
 V.d none 0 (Ty.int IntKind.i64) x6, V.d none 0 (Ty.int IntKind.i64) x7, V.d none 0 (Ty.int IntKind.i64) x8, V.dead,
 V.dead, V.dead, V.dead, V.dead, V.dead, V.dead, V.dead, V.dead, V.dead, V.dead, V.dead, V.dead, V.dead, V.dead, V.dead,
 V.dead, V.dead, V.dead, V.dead, V.dead, V.dead, V.dead, V.dead, V.dead, V.dead, V.dead, V.dead, V.dead, V.dead, V.dead,
 V.dead, V.dead, V.dead, V.dead, V.dead, V.dead, V.dead, V.dead, V.dead, V.dead, V.dead, V.dead, V.dead, V.dead, V.dead,
 V.dead, V.dead, V.dead, V.dead, V.dead, V.dead, V.dead, V.dead, V.dead, V.dead, V.dead, V.dead, V.dead, V.dead, V.dead,
 V.dead, V.dead, V.dead, V.dead, V.dead, V.dead, V.dead, V.dead, V.dead, V.dead, V.dead, V.dead, V.dead, V.dead, V.dead,
 V.dead, V.dead, V.dead, V.dead, V.dead, V.dead, V.dead, V.dead, V.dead, V.dead, V.dead, V.dead, V.dead, V.dead, V.dead,
 V.dead, V.dead, V.dead, V.dead, V.dead, V.dead, V.dead, V.dead, V.dead, V.dead, V.dead, V.dead, V.dead, V.dead, V.dead,
 V.dead, V.dead]
noncomputable def Js_IsFormula_14 (x0 : List Rel) (x1 : List Nod) (x5 : List Int) (x6 : Int) (x7 : Int) : Option ((Bool × PUnit) × PUnit) := joinAt Es_IsFormula [1, 1, 1, 0, 1, 0, 0, 1, 0, 0, 1, 1, 1] (Tryz.f151.body.getD .skip) Ks_IsFormula [V.d none 0 ty49 x0, V.d none 0 ty43 x1, V.dead, V.dead, V.dead, V.d none (ty3.depth + 1) (Ty.slice 3 ty3) x5,
 V.d none 0 (Ty.int IntKind.i64) x6, V.d none 0 (Ty.int IntKind.i64) x7, V.dead, V.dead, V.dead, V.dead, V.dead, V.dead,
 V.dead, V.dead, V.dead, V.dead, V.dead, V.dead, V.dead, V.dead, V.dead, V.dead, V.dead, V.dead, V.dead, V.dead, V.dead,
 V.dead, V.dead, V.dead, V.dead, V.dead, V.dead, V.dead, V.dead, V.dead, V.dead, V.dead, V.dead, V.dead, V.dead, V.dead,
 V.dead, V.dead, V.dead, V.dead, V.dead, V.dead, V.dead, V.dead, V.dead, V.dead, V.dead, V.dead, V.dead, V.dead, V.dead,
 V.dead, V.dead, V.dead, V.dead, V.dead, V.dead, V.dead, V.dead, V.dead, V.dead, V.dead, V.dead, V.dead, V.dead, V.dead,
 V.dead, V.dead, V.dead, V.dead, V.dead, V.dead, V.dead, V.dead, V.dead, V.dead, V.dead, V.dead, V.dead, V.dead, V.dead,
 V.dead, V.dead, V.dead, V.dead, V.dead, V.dead, V.dead, V.dead, V.dead, V.dead, V.dead, V.dead, V.dead, V.dead, V.dead,
 V.dead, V.dead, V.dead, V.dead, V.dead, V.dead, V.dead, V.dead, V.dead, V.dead, V.dead, V.dead, V.dead]
noncomputable def Ls_IsFormula_5 (x0 : List Rel) (x1 : List Nod) (x5 : List Int) (x6 : Int) : Option ((Bool × PUnit) × PUnit) := loopAt Es_IsFormula [1, 1, 1, 0, 1, 0] (Tryz.f151.body.getD .skip) Ks_IsFormula [V.d none 0 ty49 x0, V.d none 0 ty43 x1, V.dead, V.dead, V.dead, V.d none (ty3.depth + 1) (Ty.slice 3 ty3) x5,
 V.d none 0 (Ty.int IntKind.i64) x6, V.dead, V.dead, V.dead, V.dead, V.dead, V.dead, V.dead, V.dead, V.dead, V.dead,
 V.dead, V.dead, V.dead, V.dead, V.dead, V.dead, V.dead, V.dead, V.dead, V.dead, V.dead, V.dead, V.dead, V.dead, V.dead,
 V.dead, V.dead, V.dead, V.dead, V.dead, V.dead, V.dead, V.dead, V.dead, V.dead, V.dead, V.dead, V.dead, V.dead, V.dead,
 V.dead, V.dead, V.dead, V.dead, V.dead, V.dead, V.dead, V.dead, V.dead, V.dead, V.dead, V.dead, V.dead, V.dead, V.dead,
 V.dead, V.dead, V.dead, V.dead, V.dead, V.dead, V.dead, V.dead, V.dead, V.dead, V.dead, V.dead, V.dead, V.dead, V.dead,
 V.dead, V.dead, V.dead, V.dead, V.dead, V.dead, V.dead, V.dead, V.dead, V.dead, V.dead, V.dead, V.dead, V.dead, V.dead,
 V.dead, V.dead, V.dead, V.dead, V.dead, V.dead, V.dead, V.dead, V.dead, V.dead, V.dead, V.dead, V.dead, V.dead, V.dead,
 V.dead, V.dead, V.dead, V.dead, V.dead, V.dead, V.dead, V.dead, V.dead, V.dead]
noncomputable def Ss_IsFormula (a0 : List Rel) (a1 : List Nod) : Option ((Bool × PUnit) × PUnit) := Fs_IsFormula.sem (a0, a1, ())
def js_IsFormula : List (Nat × List Nat) := [(1000005, [1, 1, 1, 0, 1, 0]), (2000014, [1, 1, 1, 0, 1, 0, 0, 1, 0, 0, 1, 1, 1]), (2000017, [1, 1, 1, 0, 1, 0, 0, 1, 0, 0, 1, 1, 1, 1, 1])]
theorem js_IsFormula_ok : okB js_IsFormula (Tryz.f151.body.getD .skip) [] = true := by kernel_rfl
theorem Js_IsFormula_17_eq (x0 : List Rel) (x1 : List Nod) (x5 : List Int) (x6 : Int) (x7 : Int) (x8 : Int) : Js_IsFormula_17 x0 x1 x5 x6 x7 x8 =
  bif
  decide (0 ≤ 0) && decide (0 ≤ IntKind.i64.wrap (x8 - x7)) &&
   decide (IntKind.i64.wrap (x8 - x7) ≤ (↑x5.length : Int)) then
 bif
   decide
    ((0 + (List.drop (Int.toNat 0) (List.take (IntKind.i64.wrap (x8 - x7)).toNat x5)).length) * 8 ≤
     140737488355328) then
  bif
    decide
     (((List.drop (Int.toNat 0) (List.take (IntKind.i64.wrap (x8 - x7)).toNat x5)).length + 1) * 8 ≤
      140737488355328) then
   Ls_IsFormula_5 x0 x1 (List.drop (Int.toNat 0) (List.take (IntKind.i64.wrap (x8 - x7)).toNat x5) ++ [x6])
    (IntKind.i64.wrap (x6 + 1))
  else none
 else none
else none := (join_eq js_IsFormula_ok [1, 1, 1, 0, 1, 0, 0, 1, 0, 0, 1, 1, 1, 1, 1] _).trans (by kernel_rfl)
theorem Js_IsFormula_14_eq (x0 : List Rel) (x1 : List Nod) (x5 : List Int) (x6 : Int) (x7 : Int) : Js_IsFormula_14 x0 x1 x5 x6 x7 =
  bif decide ((↑x5.length : Int) < x7) then some ((false, ()), ())
else
 bif x7 == 1 then
  (getI x5 (IntKind.i64.wrap ((↑x5.length : Int) - 1))).bind fun y =>
   (getI x5 (IntKind.i64.wrap ((↑x5.length : Int) - 1))).bind fun y =>
    (getI x1 x6).bind fun y_1 =>
     bif y != y_1.snd.snd.snd.snd.snd.snd.fst then some ((false, ()), ())
     else
      bif x7 == 2 then
       (getI x5 (IntKind.i64.wrap ((↑x5.length : Int) - 1))).bind fun y =>
        (getI x5 (IntKind.i64.wrap ((↑x5.length : Int) - 1))).bind fun y =>
         (getI x1 x6).bind fun y_2 =>
          bif y != y_2.snd.snd.snd.snd.snd.snd.snd then some ((false, ()), ())
          else
           (getI x5 (IntKind.i64.wrap ((↑x5.length : Int) - 2))).bind fun y =>
            (getI x5 (IntKind.i64.wrap ((↑x5.length : Int) - 2))).bind fun y =>
             (getI x1 x6).bind fun y_3 =>
              bif y != y_3.snd.snd.snd.snd.snd.snd.fst then some ((false, ()), ())
              else Js_IsFormula_17 x0 x1 x5 x6 x7 (↑x5.length : Int)
      else Js_IsFormula_17 x0 x1 x5 x6 x7 (↑x5.length : Int)
 else
  bif x7 == 2 then
   (getI x5 (IntKind.i64.wrap ((↑x5.length : Int) - 1))).bind fun y =>
    (getI x5 (IntKind.i64.wrap ((↑x5.length : Int) - 1))).bind fun y =>
     (getI x1 x6).bind fun y_1 =>
      bif y != y_1.snd.snd.snd.snd.snd.snd.snd then some ((false, ()), ())
      else
       (getI x5 (IntKind.i64.wrap ((↑x5.length : Int) - 2))).bind fun y =>
        (getI x5 (IntKind.i64.wrap ((↑x5.length : Int) - 2))).bind fun y =>
         (getI x1 x6).bind fun y_2 =>
          bif y != y_2.snd.snd.snd.snd.snd.snd.fst then some ((false, ()), ())
          else Js_IsFormula_17 x0 x1 x5 x6 x7 (↑x5.length : Int)
  else Js_IsFormula_17 x0 x1 x5 x6 x7 (↑x5.length : Int) := (join_eq js_IsFormula_ok [1, 1, 1, 0, 1, 0, 0, 1, 0, 0, 1, 1, 1] _).trans (by kernel_rfl)
theorem Ls_IsFormula_5_eq (x0 : List Rel) (x1 : List Nod) (x5 : List Int) (x6 : Int) : Ls_IsFormula_5 x0 x1 x5 x6 =
  bif decide (x6 < (↑x1.length : Int)) then
 (getI x1 x6).bind fun y =>
  (Ss_l5Node x0 y).bind fun y =>
   bif !y.fst.fst then some ((false, ()), ())
   else
    (getI x1 x6).bind fun y =>
     bif y.fst == 3 then Js_IsFormula_14 x0 x1 x5 x6 2
     else
      (getI x1 x6).bind fun y =>
       bif y.fst == 4 then Js_IsFormula_14 x0 x1 x5 x6 2
       else
        (getI x1 x6).bind fun y =>
         bif decide (y.fst > 1) then Js_IsFormula_14 x0 x1 x5 x6 1 else Js_IsFormula_14 x0 x1 x5 x6 0
else some (((↑x5.length : Int) == 1, ()), ()) := (turn_eq js_IsFormula_ok [1, 1, 1, 0, 1, 0] (by kernel_rfl) _).trans (by kernel_rfl)
theorem Ss_IsFormula_eq (a0 : List Rel) (a1 : List Nod) : Ss_IsFormula a0 a1 =
  (Ss_IsDatabase a0).bind fun y =>
 bif !y.fst.fst then some ((false, ()), ())
 else
  (Ss_l1In (↑a1.length : Int) 1 12).bind fun y =>
   bif !y.fst.fst then some ((false, ()), ()) else Ls_IsFormula_5 a0 a1 [] 0 := (Eq.trans (by kernel_rfl : Ss_IsFormula a0 a1 = denK Es_IsFormula (Tryz.f151.body.getD .skip) Ks_IsFormula (slots0 117 [(ty49, Mode.ro), (ty43, Mode.ro)] (a0, a1, ()))) (all_eq js_IsFormula_ok _)).trans (by kernel_rfl)
noncomputable def Es_IsPositive : Env := mkEnv C tab_s_IsFormula [0, 1, 2, 3, 5, 12, 14, 15, 19, 21, 22] 29 (fun k => bif k == 1000002 then some 35 else none)
 (Hints.mk (fun x x_1 => none) (fun s => Nat.testBit 0 s) fun x => []) [(ty49, Mode.ro), (ty43, Mode.ro)]
noncomputable def Ks_IsPositive := endK C [(ty49, Mode.ro), (ty43, Mode.ro)] [(ty4, 0)] [RV.tmp 4]
noncomputable def Ls_IsPositive_2 (x0 : List Rel) (x1 : List Nod) (x5 : Int) : Option ((Bool × PUnit) × PUnit) := loopAt Es_IsPositive [1, 0, 1, 0] (Tryz.f111.body.getD .skip) Ks_IsPositive [V.d none 0 ty49 x0, V.d none 0 ty43 x1, V.dead, V.dead, V.dead, V.d none 0 (Ty.int IntKind.i64) x5, V.dead, V.dead,
 V.dead, V.dead, V.dead, V.dead, V.dead, V.dead, V.dead, V.dead, V.dead, V.dead, V.dead, V.dead, V.dead, V.dead, V.dead,
 V.dead, V.dead, V.dead, V.dead, V.dead, V.dead]
noncomputable def Ss_IsPositive (a0 : List Rel) (a1 : List Nod) : Option ((Bool × PUnit) × PUnit) := Fs_IsPositive.sem (a0, a1, ())
def js_IsPositive : List (Nat × List Nat) := [(1000002, [1, 0, 1, 0])]
theorem js_IsPositive_ok : okB js_IsPositive (Tryz.f111.body.getD .skip) [] = true := by kernel_rfl
theorem Ls_IsPositive_2_eq (x0 : List Rel) (x1 : List Nod) (x5 : Int) : Ls_IsPositive_2 x0 x1 x5 =
  bif decide (x5 < (↑x1.length : Int)) then
 (getI x1 x5).bind fun y =>
  bif y.fst == 2 then some ((false, ()), ())
  else
   (getI x1 x5).bind fun y =>
    bif y.fst == 6 then some ((false, ()), ()) else Ls_IsPositive_2 x0 x1 (IntKind.i64.wrap (x5 + 1))
else (Ss_IsFormula x0 x1).bind fun y => some ((y.fst.fst, ()), ()) := (turn_eq js_IsPositive_ok [1, 0, 1, 0] (by kernel_rfl) _).trans (by kernel_rfl)
theorem Ss_IsPositive_eq (a0 : List Rel) (a1 : List Nod) : Ss_IsPositive a0 a1 =
  Ls_IsPositive_2 a0 a1 0 := (Eq.trans (by kernel_rfl : Ss_IsPositive a0 a1 = denK Es_IsPositive (Tryz.f111.body.getD .skip) Ks_IsPositive (slots0 29 [(ty49, Mode.ro), (ty43, Mode.ro)] (a0, a1, ()))) (all_eq js_IsPositive_ok _)).trans (by kernel_rfl)
noncomputable def Es_IsView : Env := mkEnv C tab_s_IsPositive
 [0, 1, 2, 3, 5, 6, 7, 8, 10, 16, 17, 19, 21, 26, 27, 32, 38, 44, 45, 47, 53, 54, 63, 64, 66, 67, 68, 70, 71, 79, 83] 88
 (fun k =>
  bif k == 2 then some 57
  else
   bif k == 4 then some 57
   else
    bif k == 5 then some 121
    else
     bif k == 8 then some 249
     else
      bif k == 11 then some 35184372089337
      else bif k == 13 then some 25 else bif k == 1000002 then some 41 else bif k == 1000008 then some 233 else none)
 (Hints.mk (fun x x_1 => none) (fun s => Nat.testBit 72 s) fun r =>
  bif r == 3 then [11, 17, 19, 20, 80, 84]
  else bif r == 6 then [8, 22, 33, 39, 45, 47, 48, 49, 53, 54, 63, 64, 67, 68, 70, 71, 72] else [])
 [(ty49, Mode.ro), (ty46, Mode.ro)]
noncomputable def Ks_IsView := endK C [(ty49, Mode.ro), (ty46, Mode.ro)] [(ty4, 0)] [RV.tmp 4]
noncomputable def Ls_IsView_8 (x0 : List Rel) (x3 : Viw) (x5 : Int) (x6 : Cel × List (List Int)) (x7 : Int) : Option ((Bool × PUnit) × PUnit) := loopAt Es_IsView [1, 0, 1, 0, 0, 1, 0, 0, 1, 1, 1, 0] (Tryz.f53.body.getD .skip) Ks_IsView [V.d none 0 ty49 x0, V.dead, V.dead, V.box none 0 ty46 x3, V.dead, V.d none 0 (Ty.int IntKind.i64) x5,
 V.box none 0 ty122 x6, V.d none 0 (Ty.int IntKind.i64) x7, V.dead, V.dead, V.dead, V.dead, V.dead, V.dead, V.dead,
 V.dead, V.dead, V.dead, V.dead, V.dead, V.dead, V.dead, V.dead, V.dead, V.dead, V.dead, V.dead, V.dead, V.dead, V.dead,
 V.dead, V.dead, V.dead, V.dead, V.dead, V.dead, V.dead, V.dead, V.dead, V.dead, V.dead, V.dead, V.dead, V.dead, V.dead,
 V.dead, V.dead, V.dead, V.dead, V.dead, V.dead, V.dead, V.dead, V.dead, V.dead, V.dead, V.dead, V.dead, V.dead, V.dead,
 V.dead, V.dead, V.dead, V.dead, V.dead, V.dead, V.dead, V.dead, V.dead, V.dead, V.dead, V.dead, V.dead, V.dead, V.dead,
 V.dead, V.dead, V.dead, V.dead, V.dead, V.dead, V.dead, V.dead, V.dead, V.dead, V.dead, V.dead, V.dead]
noncomputable def Ls_IsView_2 (x0 : List Rel) (x3 : Viw) (x5 : Int) : Option ((Bool × PUnit) × PUnit) := loopAt Es_IsView [1, 0, 1, 0] (Tryz.f53.body.getD .skip) Ks_IsView [V.d none 0 ty49 x0, V.dead, V.dead, V.box none 0 ty46 x3, V.dead, V.d none 0 (Ty.int IntKind.i64) x5, V.dead, V.dead,
 V.dead, V.dead, V.dead, V.dead, V.dead, V.dead, V.dead, V.dead, V.dead, V.dead, V.dead, V.dead, V.dead, V.dead, V.dead,
 V.dead, V.dead, V.dead, V.dead, V.dead, V.dead, V.dead, V.dead, V.dead, V.dead, V.dead, V.dead, V.dead, V.dead, V.dead,
 V.dead, V.dead, V.dead, V.dead, V.dead, V.dead, V.dead, V.dead, V.dead, V.dead, V.dead, V.dead, V.dead, V.dead, V.dead,
 V.dead, V.dead, V.dead, V.dead, V.dead, V.dead, V.dead, V.dead, V.dead, V.dead, V.dead, V.dead, V.dead, V.dead, V.dead,
 V.dead, V.dead, V.dead, V.dead, V.dead, V.dead, V.dead, V.dead, V.dead, V.dead, V.dead, V.dead, V.dead, V.dead, V.dead,
 V.dead, V.dead, V.dead, V.dead, V.dead]
noncomputable def Ss_IsView (a0 : List Rel) (a1 : Viw) : Option ((Bool × PUnit) × PUnit) := Fs_IsView.sem (a0, a1, ())
def js_IsView : List (Nat × List Nat) := [(1000002, [1, 0, 1, 0]), (1000008, [1, 0, 1, 0, 0, 1, 0, 0, 1, 1, 1, 0])]
theorem js_IsView_ok : okB js_IsView (Tryz.f53.body.getD .skip) [] = true := by kernel_rfl
theorem Ls_IsView_8_eq (x0 : List Rel) (x3 : Viw) (x5 : Int) (x6 : Cel × List (List Int)) (x7 : Int) : Ls_IsView_8 x0 x3 x5 x6 x7 =
  bif decide (x7 < (↑(List.length x6.snd) : Int)) then
 (getI x6.snd x7).bind fun y =>
  bif (↑y.length : Int) != 2 then some ((false, ()), ())
  else
   (getI y 0).bind fun y_1 =>
    (Ss_l1In y_1 0 (IntKind.i64.wrap ((↑x0.length : Int) - 1))).bind fun y_2 =>
     bif !y_2.fst.fst then some ((false, ()), ())
     else
      (getI y 1).bind fun y_3 =>
       (getI y 0).bind fun y =>
        (getI x0 y).bind fun y =>
         (Ss_l1In y_3 0 (IntKind.i64.wrap ((↑(List.length y.snd.snd) : Int) - 1))).bind fun y =>
          bif !y.fst.fst then some ((false, ()), ()) else Ls_IsView_8 x0 x3 x5 x6 (IntKind.i64.wrap (x7 + 1))
else Ls_IsView_2 x0 x3 (IntKind.i64.wrap (x5 + 1)) := (turn_eq js_IsView_ok [1, 0, 1, 0, 0, 1, 0, 0, 1, 1, 1, 0] (by kernel_rfl) _).trans (by kernel_rfl)
theorem Ls_IsView_2_eq (x0 : List Rel) (x3 : Viw) (x5 : Int) : Ls_IsView_2 x0 x3 x5 =
  bif decide (x5 < (↑(List.length x3.snd) : Int)) then
 (getI x3.snd x5).bind fun y =>
  (Ss_IsCell y.fst).bind fun y_1 =>
   bif !y_1.fst.fst then some ((false, ()), ())
   else
    bif y.fst.fst != 4 then some ((false, ()), ())
    else bif decide ((↑(List.length y.snd) : Int) > 12) then some ((false, ()), ()) else Ls_IsView_8 x0 x3 x5 y 0
else
 (Ss_IsPositive x0 x3.fst).bind fun y =>
  bif y.fst.fst then some ((decide ((↑(List.length x3.snd) : Int) ≤ 24), ()), ()) else some ((false, ()), ()) := (turn_eq js_IsView_ok [1, 0, 1, 0] (by kernel_rfl) _).trans (by kernel_rfl)
theorem Ss_IsView_eq (a0 : List Rel) (a1 : Viw) : Ss_IsView a0 a1 =
  Ls_IsView_2 a0 a1 0 := (Eq.trans (by kernel_rfl : Ss_IsView a0 a1 = denK Es_IsView (Tryz.f53.body.getD .skip) Ks_IsView (slots0 88 [(ty49, Mode.ro), (ty46, Mode.ro)] (a0, a1, ()))) (all_eq js_IsView_ok _)).trans (by kernel_rfl)
noncomputable def Es_l3Atom : Env := mkEnv C tab_s_IsView [0, 1, 2, 4, 7, 9] 12 (fun k => bif k == 1 then some 6 else none)
 (Hints.mk (fun x x_1 => none) (fun s => Nat.testBit 6 s) fun r => bif r == 1 then [5] else bif r == 2 then [] else [])
 [(ty85, Mode.ro)]
noncomputable def Ks_l3Atom := endK C [(ty85, Mode.ro)] [(ty85, 1)] [RV.cell 2 85]
noncomputable def Ss_l3Atom (a0 : Atm) : Option ((Atm × PUnit) × PUnit) := Fs_l3Atom.sem (a0, ())
theorem Ss_l3Atom_eq (a0 : Atm) : Ss_l3Atom a0 =
  bif decide ((0 + List.length a0.fst) * 8 ≤ 140737488355328) then some (((a0.fst, a0.snd.fst, a0.snd.snd), ()), ())
else none := by kernel_rfl
noncomputable def Es_l5Append : Env := mkEnv C tab_s_l3Atom [0, 1, 2, 3, 5, 6, 7, 16, 18, 20, 22, 23, 28, 30, 31, 35, 38, 43, 47, 51] 61
 (fun k =>
  bif k == 1 then some 19
  else
   bif k == 3 then some 115
   else
    bif k == 5 then some 115
    else
     bif k == 6 then some 243
     else
      bif k == 7 then some 243
      else
       bif k == 9 then some 243
       else bif k == 11 then some 243 else bif k == 12 then some 243 else bif k == 1000003 then some 99 else none)
 (Hints.mk (fun x x_1 => none)
  (fun s =>
   Nat.testBit
    157469686036622998647239528099424321874011378654314715618063107732487526478678137443246088683339962826550995104518631028289649175154974313418890557704364586398074796845548162228866984974254165366095965214688880693303613224408790401716875616922712368229541972327764856553535166521820992678875253248684383732303833942205557677303912077534287411501151331443691581169107340841268390653886510566775109181758452449725964576504413271696901684334558048546715211836387666425534296129500294599932215395935674217443431483415129229194734311959596616386910745061975375642305516225546310657319686432742603436754678784145119420700251521751476980165475720161258736140973342103583372373765396572240564682432303519745079097239659788622121034293503002452767658076431627329746391540181806106772819669842064759935616277824086464175964671842048745930150492576444785998368017302001814387082228645313587171055638850434333438640256
    s)
  fun r => bif r == 7 then [57] else [])
 [(ty43, Mode.eat 2), (ty43, Mode.ro)]
noncomputable def Ks_l5Append := endK C [(ty43, Mode.eat 2), (ty43, Mode.ro)] [(ty43, 2)] [RV.tmp 4]
noncomputable def Ls_l5Append_3 (x0 : List Nod) (x1 : List Nod) (x5 : Int) (x6 : Int) : Option ((List Nod × PUnit) × PUnit) := loopAt Es_l5Append [1, 1, 0, 1, 0] (Tryz.f55.body.getD .skip) Ks_l5Append [V.d none 2 ty43 x0, V.d none 0 ty43 x1, V.dead, V.dead, V.dead, V.d none 0 (Ty.int IntKind.i64) x5,
 V.d none 0 (Ty.int IntKind.i64) x6, V.dead, V.dead, V.dead, V.dead, V.dead, V.dead, V.dead, V.dead, V.dead, V.dead,
 V.dead, V.dead, V.dead, V.dead, V.dead, V.dead, V.dead, V.dead, V.dead, V.dead, V.dead, V.dead, V.dead, V.dead, V.dead,
 V.dead, V.dead, V.dead, V.dead, V.dead, V.dead, V.dead, V.dead, V.dead, V.dead, V.dead, V.dead, V.dead, V.dead, V.dead,
 V.dead, V.dead, V.dead, V.dead, V.dead, V.dead, V.dead, V.dead, V.dead, V.dead, V.dead, V.dead, V.dead, V.dead]
noncomputable def Ss_l5Append (a0 : List Nod) (a1 : List Nod) : Option ((List Nod × PUnit) × PUnit) := Fs_l5Append.sem (a0, a1, ())
def js_l5Append : List (Nat × List Nat) := [(1000003, [1, 1, 0, 1, 0])]
theorem js_l5Append_ok : okB js_l5Append (Tryz.f55.body.getD .skip) [] = true := by kernel_rfl
theorem Ls_l5Append_3_eq (x0 : List Nod) (x1 : List Nod) (x5 : Int) (x6 : Int) : Ls_l5Append_3 x0 x1 x5 x6 =
  bif decide (x6 < (↑x1.length : Int)) then
 (getI x1 x6).bind fun y =>
  (getI x1 x6).bind fun y_1 =>
   (Ss_l3Atom y_1.snd.fst).bind fun y_2 =>
    (getI x1 x6).bind fun y_3 =>
     bif decide ((0 + List.length y_3.snd.snd.snd.snd.fst) * 8 ≤ 140737488355328) then
      bif decide (y.fst > 1) then
       bif y.fst == 3 then
        bif decide ((x0.length + 1) * 128 ≤ 140737488355328) then
         Ls_l5Append_3
          (x0 ++
           [(y.fst, y_2.fst.fst, y.snd.snd.fst, y.snd.snd.snd.fst, y_3.snd.snd.snd.snd.fst, y.snd.snd.snd.snd.snd.fst,
             IntKind.i64.wrap (y.snd.snd.snd.snd.snd.snd.fst + x5),
             IntKind.i64.wrap (y.snd.snd.snd.snd.snd.snd.snd + x5))])
          x1 x5 (IntKind.i64.wrap (x6 + 1))
        else none
       else
        bif y.fst == 4 then
         bif decide ((x0.length + 1) * 128 ≤ 140737488355328) then
          Ls_l5Append_3
           (x0 ++
            [(y.fst, y_2.fst.fst, y.snd.snd.fst, y.snd.snd.snd.fst, y_3.snd.snd.snd.snd.fst, y.snd.snd.snd.snd.snd.fst,
              IntKind.i64.wrap (y.snd.snd.snd.snd.snd.snd.fst + x5),
              IntKind.i64.wrap (y.snd.snd.snd.snd.snd.snd.snd + x5))])
           x1 x5 (IntKind.i64.wrap (x6 + 1))
         else none
        else
         bif decide ((x0.length + 1) * 128 ≤ 140737488355328) then
          Ls_l5Append_3
           (x0 ++
            [(y.fst, y_2.fst.fst, y.snd.snd.fst, y.snd.snd.snd.fst, y_3.snd.snd.snd.snd.fst, y.snd.snd.snd.snd.snd.fst,
              IntKind.i64.wrap (y.snd.snd.snd.snd.snd.snd.fst + x5), y.snd.snd.snd.snd.snd.snd.snd)])
           x1 x5 (IntKind.i64.wrap (x6 + 1))
         else none
      else
       bif y.fst == 3 then
        bif decide ((x0.length + 1) * 128 ≤ 140737488355328) then
         Ls_l5Append_3
          (x0 ++
           [(y.fst, y_2.fst.fst, y.snd.snd.fst, y.snd.snd.snd.fst, y_3.snd.snd.snd.snd.fst, y.snd.snd.snd.snd.snd.fst,
             y.snd.snd.snd.snd.snd.snd.fst, IntKind.i64.wrap (y.snd.snd.snd.snd.snd.snd.snd + x5))])
          x1 x5 (IntKind.i64.wrap (x6 + 1))
        else none
       else
        bif y.fst == 4 then
         bif decide ((x0.length + 1) * 128 ≤ 140737488355328) then
          Ls_l5Append_3
           (x0 ++
            [(y.fst, y_2.fst.fst, y.snd.snd.fst, y.snd.snd.snd.fst, y_3.snd.snd.snd.snd.fst, y.snd.snd.snd.snd.snd.fst,
              y.snd.snd.snd.snd.snd.snd.fst, IntKind.i64.wrap (y.snd.snd.snd.snd.snd.snd.snd + x5))])
           x1 x5 (IntKind.i64.wrap (x6 + 1))
         else none
        else
         bif decide ((x0.length + 1) * 128 ≤ 140737488355328) then
          Ls_l5Append_3
           (x0 ++
            [(y.fst, y_2.fst.fst, y.snd.snd.fst, y.snd.snd.snd.fst, y_3.snd.snd.snd.snd.fst, y.snd.snd.snd.snd.snd)])
           x1 x5 (IntKind.i64.wrap (x6 + 1))
         else none
     else none
else some ((x0, ()), ()) := (turn_eq js_l5Append_ok [1, 1, 0, 1, 0] (by kernel_rfl) _).trans (by kernel_rfl)
theorem Ss_l5Append_eq (a0 : List Nod) (a1 : List Nod) : Ss_l5Append a0 a1 =
  Ls_l5Append_3 a0 a1 (↑a0.length : Int) 0 := (Eq.trans (by kernel_rfl : Ss_l5Append a0 a1 = denK Es_l5Append (Tryz.f55.body.getD .skip) Ks_l5Append (slots0 61 [(ty43, Mode.eat 2), (ty43, Mode.ro)] (a0, a1, ()))) (all_eq js_l5Append_ok _)).trans (by kernel_rfl)
noncomputable def Es_l10Uses : Env := mkEnv C tab_s_l5Append [0, 1, 2, 3, 4, 5, 7, 9, 15, 16, 18, 19, 20, 25, 26, 28, 29, 30] 35
 (fun k => bif k == 2 then some 206 else bif k == 1000002 then some 142 else none)
 (Hints.mk (fun x x_1 => none) (fun s => Nat.testBit 8 s) fun r =>
  bif r == 3 then [10, 16, 18, 19, 20, 26, 28, 29, 30] else [])
 [(ty122, Mode.ro), (ty3, Mode.ro), (ty3, Mode.ro)]
noncomputable def Ks_l10Uses := endK C [(ty122, Mode.ro), (ty3, Mode.ro), (ty3, Mode.ro)] [(ty4, 0)] [RV.tmp 6]
noncomputable def Ls_l10Uses_2 (x1 : Int) (x2 : Int) (x3 : Cel × List (List Int)) (x7 : Int) : Option ((Bool × PUnit) × PUnit) := loopAt Es_l10Uses [1, 0, 1, 0] (Tryz.f56.body.getD .skip) Ks_l10Uses [V.dead, V.d none 0 ty3 x1, V.d none 0 ty3 x2, V.box none 0 ty122 x3, V.dead, V.dead, V.dead,
 V.d none 0 (Ty.int IntKind.i64) x7, V.dead, V.dead, V.dead, V.dead, V.dead, V.dead, V.dead, V.dead, V.dead, V.dead,
 V.dead, V.dead, V.dead, V.dead, V.dead, V.dead, V.dead, V.dead, V.dead, V.dead, V.dead, V.dead, V.dead, V.dead, V.dead,
 V.dead, V.dead]
noncomputable def Ss_l10Uses (a0 : Cel × List (List Int)) (a1 : Int) (a2 : Int) : Option ((Bool × PUnit) × PUnit) := Fs_l10Uses.sem (a0, a1, a2, ())
def js_l10Uses : List (Nat × List Nat) := [(1000002, [1, 0, 1, 0])]
theorem js_l10Uses_ok : okB js_l10Uses (Tryz.f56.body.getD .skip) [] = true := by kernel_rfl
theorem Ls_l10Uses_2_eq (x1 : Int) (x2 : Int) (x3 : Cel × List (List Int)) (x7 : Int) : Ls_l10Uses_2 x1 x2 x3 x7 =
  bif decide (x7 < (↑(List.length x3.snd) : Int)) then
 (getI x3.snd x7).bind fun y =>
  (getI y 0).bind fun y =>
   bif y == x1 then
    (getI x3.snd x7).bind fun y =>
     (getI y 1).bind fun y =>
      bif y == x2 then some ((true, ()), ()) else Ls_l10Uses_2 x1 x2 x3 (IntKind.i64.wrap (x7 + 1))
   else Ls_l10Uses_2 x1 x2 x3 (IntKind.i64.wrap (x7 + 1))
else some ((false, ()), ()) := (turn_eq js_l10Uses_ok [1, 0, 1, 0] (by kernel_rfl) _).trans (by kernel_rfl)
theorem Ss_l10Uses_eq (a0 : Cel × List (List Int)) (a1 : Int) (a2 : Int) : Ss_l10Uses a0 a1 a2 =
  Ls_l10Uses_2 a1 a2 a0 0 := (Eq.trans (by kernel_rfl : Ss_l10Uses a0 a1 a2 = denK Es_l10Uses (Tryz.f56.body.getD .skip) Ks_l10Uses (slots0 35 [(ty122, Mode.ro), (ty3, Mode.ro), (ty3, Mode.ro)] (a0, a1, a2, ()))) (all_eq js_l10Uses_ok _)).trans (by kernel_rfl)
noncomputable def Es_l3Copy : Env := mkEnv C tab_s_l10Uses [0, 1, 2, 3, 4, 5, 9, 15, 17, 18, 20] 27
 (fun k =>
  bif k == 1 then some 6
  else
   bif k == 3 then some 30
   else bif k == 5 then some 30 else bif k == 6 then some 12 else bif k == 1000003 then some 30 else none)
 (Hints.mk (fun x x_1 => none) (fun s => Nat.testBit 14 s) fun r =>
  bif r == 1 then [10, 18, 20, 21] else bif r == 2 then [] else bif r == 3 then [16, 26] else [])
 [(ty83, Mode.ro)]
noncomputable def Ks_l3Copy := endK C [(ty83, Mode.ro)] [(ty83, 2)] [RV.cell 2 83]
noncomputable def Ls_l3Copy_3 (x1 : Int × List Atm) (x2 : Int × List Atm) (x3 : Int × List Atm) (x4 : Int) : Option ((Cel × PUnit) × PUnit) := loopAt Es_l3Copy [1, 1, 0, 1, 0] (Tryz.f57.body.getD .skip) Ks_l3Copy [V.dead, V.box none 0 ty83 x1, V.box none ty83.depth ty83 x2, V.box none ty83.depth ty83 x3,
 V.d none 0 (Ty.int IntKind.i64) x4, V.dead, V.dead, V.dead, V.dead, V.dead, V.dead, V.dead, V.dead, V.dead, V.dead,
 V.dead, V.dead, V.dead, V.dead, V.dead, V.dead, V.dead, V.dead, V.dead, V.dead, V.dead, V.dead]
noncomputable def Ss_l3Copy (a0 : Int × List Atm) : Option ((Cel × PUnit) × PUnit) := Fs_l3Copy.sem (a0, ())
def js_l3Copy : List (Nat × List Nat) := [(1000003, [1, 1, 0, 1, 0])]
theorem js_l3Copy_ok : okB js_l3Copy (Tryz.f57.body.getD .skip) [] = true := by kernel_rfl
theorem Ls_l3Copy_3_eq (x1 : Int × List Atm) (x2 : Int × List Atm) (x3 : Int × List Atm) (x4 : Int) : Ls_l3Copy_3 x1 x2 x3 x4 =
  bif decide (x4 < (↑(List.length x1.snd) : Int)) then
 (getI x1.snd x4).bind fun y =>
  (Ss_l3Atom y).bind fun y =>
   bif decide ((List.length x3.snd + 1) * 40 ≤ 140737488355328) then
    Ls_l3Copy_3 x1 x2 (x3.fst, x3.snd ++ [y.fst.fst]) (IntKind.i64.wrap (x4 + 1))
   else none
else some ((x3, ()), ()) := (turn_eq js_l3Copy_ok [1, 1, 0, 1, 0] (by kernel_rfl) _).trans (by kernel_rfl)
theorem Ss_l3Copy_eq (a0 : Int × List Atm) : Ss_l3Copy a0 =
  Ls_l3Copy_3 a0 (0, []) (a0.fst, []) 0 := (Eq.trans (by kernel_rfl : Ss_l3Copy a0 = denK Es_l3Copy (Tryz.f57.body.getD .skip) Ks_l3Copy (slots0 27 [(ty83, Mode.ro)] (a0, ()))) (all_eq js_l3Copy_ok _)).trans (by kernel_rfl)
noncomputable def Es_l10Pairs : Env := mkEnv C tab_s_l3Copy [0, 1, 3, 4, 14, 16] 22 (fun k => bif k == 1000003 then some 25 else none)
 (Hints.mk (fun x x_1 => none) (fun s => Nat.testBit 0 s) fun x => []) [(ty120, Mode.ro)]
noncomputable def Ks_l10Pairs := endK C [(ty120, Mode.ro)] [(ty120, 2)] [RV.tmp 2]
noncomputable def Ls_l10Pairs_3 (x0 : List (List Int)) (x3 : List (List Int)) (x4 : Int) : Option ((List (List Int) × PUnit) × PUnit) := loopAt Es_l10Pairs [1, 1, 0, 1, 0] (Tryz.f58.body.getD .skip) Ks_l10Pairs [V.d none 0 ty120 x0, V.dead, V.dead, V.d none (ty59.depth + 1) (Ty.slice 59 ty59) x3,
 V.d none 0 (Ty.int IntKind.i64) x4, V.dead, V.dead, V.dead, V.dead, V.dead, V.dead, V.dead, V.dead, V.dead, V.dead,
 V.dead, V.dead, V.dead, V.dead, V.dead, V.dead, V.dead]
noncomputable def Ss_l10Pairs (a0 : List (List Int)) : Option ((List (List Int) × PUnit) × PUnit) := Fs_l10Pairs.sem (a0, ())
def js_l10Pairs : List (Nat × List Nat) := [(1000003, [1, 1, 0, 1, 0])]
theorem js_l10Pairs_ok : okB js_l10Pairs (Tryz.f58.body.getD .skip) [] = true := by kernel_rfl
theorem Ls_l10Pairs_3_eq (x0 : List (List Int)) (x3 : List (List Int)) (x4 : Int) : Ls_l10Pairs_3 x0 x3 x4 =
  bif decide (x4 < (↑x0.length : Int)) then
 (getI x0 x4).bind fun y =>
  bif decide ((0 + y.length) * 8 ≤ 140737488355328) then
   bif decide ((x3.length + 1) * 24 ≤ 140737488355328) then Ls_l10Pairs_3 x0 (x3 ++ [y]) (IntKind.i64.wrap (x4 + 1))
   else none
  else none
else some ((x3, ()), ()) := (turn_eq js_l10Pairs_ok [1, 1, 0, 1, 0] (by kernel_rfl) _).trans (by kernel_rfl)
theorem Ss_l10Pairs_eq (a0 : List (List Int)) : Ss_l10Pairs a0 =
  Ls_l10Pairs_3 a0 [] 0 := (Eq.trans (by kernel_rfl : Ss_l10Pairs a0 = denK Es_l10Pairs (Tryz.f58.body.getD .skip) Ks_l10Pairs (slots0 22 [(ty120, Mode.ro)] (a0, ()))) (all_eq js_l10Pairs_ok _)).trans (by kernel_rfl)
noncomputable def Es_ViewAfterRemove : Env := mkEnv C tab_s_l10Pairs
 (have y :=
  have y :=
   have y := [105, 106, 107, 109, 110, 111, 115];
   94 :: 95 :: 96 :: 101 :: 102 :: 104 :: y;
  have y := 82 :: 84 :: 85 :: 86 :: 91 :: 92 :: y;
  66 :: 67 :: 69 :: 70 :: 75 :: 81 :: y;
 have y :=
  have y := 51 :: 52 :: 54 :: 59 :: 60 :: 62 :: 63 :: y;
  13 :: 28 :: 30 :: 31 :: 40 :: 45 :: y;
 have y := 6 :: 7 :: 8 :: 10 :: 11 :: 12 :: y;
 0 :: 1 :: 2 :: 3 :: 4 :: 5 :: y)
 122
 (fun k =>
  bif k == 1 then some 813
  else
   bif k == 2 then some 768
   else
    bif k == 3 then some 812
    else
     bif k == 5 then some 3884
     else
      bif k == 8 then some 3884
      else
       bif k == 10 then some 16172
       else
        bif k == 13 then some 16172
        else
         bif k == 14 then some 7980
         else
          bif k == 15 then some 1792
          else bif k == 1000005 then some 3372 else bif k == 1000010 then some 15660 else none)
 (Hints.mk (fun x x_1 => none) (fun s => Nat.testBit 5408 s) fun r =>
  bif r == 5 then [15, 41, 46, 52, 54, 55, 60, 62, 63, 64, 67, 69, 70, 71]
  else
   bif r == 8 then []
   else
    bif r == 10 then [116, 121]
    else bif r == 12 then [76, 82, 84, 85, 86, 92, 94, 95, 96, 102, 104, 105, 107, 109, 110, 111, 114, 117] else [])
 [(ty49, Mode.ro), (ty46, Mode.ro), (ty3, Mode.ro), (ty3, Mode.ro)]
noncomputable def Ks_ViewAfterRemove := endK C [(ty49, Mode.ro), (ty46, Mode.ro), (ty3, Mode.ro), (ty3, Mode.ro)] [(ty46, 3), (ty4, 0)] [RV.cell 8 46, RV.tmp 9]
noncomputable def Ls_ViewAfterRemove_10 (x2 : Int) (x3 : Int) (x5 : Viw) (x8 : Viw) (x10 : Viw) (x11 : Int) (x12 : Cel × List (List Int)) (x13 : Int) : Option ((Viw ×
  Bool × PUnit) ×
 PUnit) := loopAt Es_ViewAfterRemove [1, 1, 1, 0, 1, 0, 0, 1, 0, 0, 1, 1, 0, 1, 0] (Tryz.f17.body.getD .skip) Ks_ViewAfterRemove [V.dead, V.dead, V.d none 0 ty3 x2, V.d none 0 ty3 x3, V.dead, V.box none 0 ty46 x5, V.dead, V.dead,
 V.box none ty46.depth ty46 x8, V.dead, V.box none ty46.depth ty46 x10, V.d none 0 (Ty.int IntKind.i64) x11,
 V.box none ty122.depth ty122 x12, V.d none 0 (Ty.int IntKind.i64) x13, V.dead, V.dead, V.dead, V.dead, V.dead, V.dead,
 V.dead, V.dead, V.dead, V.dead, V.dead, V.dead, V.dead, V.dead, V.dead, V.dead, V.dead, V.dead, V.dead, V.dead, V.dead,
 V.dead, V.dead, V.dead, V.dead, V.dead, V.dead, V.dead, V.dead, V.dead, V.dead, V.dead, V.dead, V.dead, V.dead, V.dead,
 V.dead, V.dead, V.dead, V.dead, V.dead, V.dead, V.dead, V.dead, V.dead, V.dead, V.dead, V.dead, V.dead, V.dead, V.dead,
 V.dead, V.dead, V.dead, V.dead, V.dead, V.dead, V.dead, V.dead, V.dead, V.dead, V.dead, V.dead, V.dead, V.dead, V.dead,
 V.dead, V.dead, V.dead, V.dead, V.dead, V.dead, V.dead, V.dead, V.dead, V.dead, V.dead, V.dead, V.dead, V.dead, V.dead,
 V.dead, V.dead, V.dead, V.dead, V.dead, V.dead, V.dead, V.dead, V.dead, V.dead, V.dead, V.dead, V.dead, V.dead, V.dead,
 V.dead, V.dead, V.dead, V.dead, V.dead, V.dead, V.dead, V.dead, V.dead, V.dead, V.dead, V.dead]
noncomputable def Ls_ViewAfterRemove_5 (x2 : Int) (x3 : Int) (x5 : Viw) (x8 : Viw) (x10 : Viw) (x11 : Int) : Option ((Viw ×
  Bool × PUnit) ×
 PUnit) := loopAt Es_ViewAfterRemove [1, 1, 1, 0, 1, 0] (Tryz.f17.body.getD .skip) Ks_ViewAfterRemove [V.dead, V.dead, V.d none 0 ty3 x2, V.d none 0 ty3 x3, V.dead, V.box none 0 ty46 x5, V.dead, V.dead,
 V.box none ty46.depth ty46 x8, V.dead, V.box none ty46.depth ty46 x10, V.d none 0 (Ty.int IntKind.i64) x11, V.dead,
 V.dead, V.dead, V.dead, V.dead, V.dead, V.dead, V.dead, V.dead, V.dead, V.dead, V.dead, V.dead, V.dead, V.dead, V.dead,
 V.dead, V.dead, V.dead, V.dead, V.dead, V.dead, V.dead, V.dead, V.dead, V.dead, V.dead, V.dead, V.dead, V.dead, V.dead,
 V.dead, V.dead, V.dead, V.dead, V.dead, V.dead, V.dead, V.dead, V.dead, V.dead, V.dead, V.dead, V.dead, V.dead, V.dead,
 V.dead, V.dead, V.dead, V.dead, V.dead, V.dead, V.dead, V.dead, V.dead, V.dead, V.dead, V.dead, V.dead, V.dead, V.dead,
 V.dead, V.dead, V.dead, V.dead, V.dead, V.dead, V.dead, V.dead, V.dead, V.dead, V.dead, V.dead, V.dead, V.dead, V.dead,
 V.dead, V.dead, V.dead, V.dead, V.dead, V.dead, V.dead, V.dead, V.dead, V.dead, V.dead, V.dead, V.dead, V.dead, V.dead,
 V.dead, V.dead, V.dead, V.dead, V.dead, V.dead, V.dead, V.dead, V.dead, V.dead, V.dead, V.dead, V.dead, V.dead, V.dead,
 V.dead, V.dead, V.dead, V.dead]
noncomputable def Ss_ViewAfterRemove (a0 : List Rel) (a1 : Viw) (a2 : Int) (a3 : Int) : Option ((Viw ×
  Bool × PUnit) ×
 PUnit) := Fs_ViewAfterRemove.sem (a0, a1, a2, a3, ())
def js_ViewAfterRemove : List (Nat × List Nat) := [(1000005, [1, 1, 1, 0, 1, 0]), (1000010, [1, 1, 1, 0, 1, 0, 0, 1, 0, 0, 1, 1, 0, 1, 0])]
theorem js_ViewAfterRemove_ok : okB js_ViewAfterRemove (Tryz.f17.body.getD .skip) [] = true := by kernel_rfl
theorem Ls_ViewAfterRemove_10_eq (x2 : Int) (x3 : Int) (x5 : Viw) (x8 : Viw) (x10 : Viw) (x11 : Int) (x12 : Cel × List (List Int)) (x13 : Int) : Ls_ViewAfterRemove_10 x2 x3 x5 x8 x10 x11 x12 x13 =
  bif decide (x13 < (↑(List.length x12.snd) : Int)) then
 (getI x12.snd x13).bind fun y =>
  (getI x12.snd x13).bind fun y =>
   (getI x12.snd x13).bind fun y =>
    (getI y 0).bind fun y =>
     (getI x12.snd x13).bind fun y =>
      (getI y 0).bind fun y =>
       bif y == x2 then
        (getI x12.snd x13).bind fun y =>
         (getI x12.snd x13).bind fun y =>
          (getI x12.snd x13).bind fun y =>
           (getI y 1).bind fun y =>
            (getI x12.snd x13).bind fun y =>
             (getI y 1).bind fun y =>
              bif decide (y > x3) then
               (getI x12.snd x13).bind fun y =>
                (getI x12.snd x13).bind fun y =>
                 (getI x12.snd x13).bind fun y =>
                  (getI x12.snd x13).bind fun y =>
                   (getI x12.snd x13).bind fun y =>
                    (getI y 1).bind fun y =>
                     (getI x12.snd x13).bind fun y =>
                      (getI y 1).bind fun y =>
                       (getI x12.snd x13).bind fun y_1 =>
                        (getI y_1 1).bind fun y_2 =>
                         (getI x12.snd x13).bind fun y_3 =>
                          (getI y_3 1).bind fun y_4 =>
                           (getI x12.snd x13).bind fun y_5 =>
                            (getI y_5 1).bind fun y_6 =>
                             (some (y_5.set (Int.toNat 1) (IntKind.i64.wrap (y - 1)))).bind fun y =>
                              (some (List.set x12.snd x13.toNat y)).bind fun y =>
                               Ls_ViewAfterRemove_10 x2 x3 x5 x8 x10 x11 (x12.fst, y) (IntKind.i64.wrap (x13 + 1))
              else Ls_ViewAfterRemove_10 x2 x3 x5 x8 x10 x11 x12 (IntKind.i64.wrap (x13 + 1))
       else Ls_ViewAfterRemove_10 x2 x3 x5 x8 x10 x11 x12 (IntKind.i64.wrap (x13 + 1))
else
 bif decide ((List.length x10.snd + 1) * 56 ≤ 140737488355328) then
  Ls_ViewAfterRemove_5 x2 x3 x5 x8 (x10.fst, x10.snd ++ [x12]) (IntKind.i64.wrap (x11 + 1))
 else none := (turn_eq js_ViewAfterRemove_ok [1, 1, 1, 0, 1, 0, 0, 1, 0, 0, 1, 1, 0, 1, 0] (by kernel_rfl) _).trans (by kernel_rfl)
theorem Ls_ViewAfterRemove_5_eq (x2 : Int) (x3 : Int) (x5 : Viw) (x8 : Viw) (x10 : Viw) (x11 : Int) : Ls_ViewAfterRemove_5 x2 x3 x5 x8 x10 x11 =
  bif decide (x11 < (↑(List.length x5.snd) : Int)) then
 (getI x5.snd x11).bind fun y =>
  (Ss_l10Uses y x2 x3).bind fun y =>
   bif y.fst.fst then Ls_ViewAfterRemove_5 x2 x3 x5 x8 x10 (IntKind.i64.wrap (x11 + 1))
   else
    (getI x5.snd x11).bind fun y =>
     (Ss_l3Copy y.fst).bind fun y =>
      (getI x5.snd x11).bind fun y_1 =>
       (Ss_l10Pairs y_1.snd).bind fun y_2 => Ls_ViewAfterRemove_10 x2 x3 x5 x8 x10 x11 (y.fst.fst, y_2.fst.fst) 0
else some ((x10, true, ()), ()) := (turn_eq js_ViewAfterRemove_ok [1, 1, 1, 0, 1, 0] (by kernel_rfl) _).trans (by kernel_rfl)
theorem Ss_ViewAfterRemove_eq (a0 : List Rel) (a1 : Viw) (a2 : Int) (a3 : Int) : Ss_ViewAfterRemove a0 a1 a2 a3 =
  (Ss_IsView a0 a1).bind fun y =>
 bif !y.fst.fst then some ((([], []), false, ()), ())
 else
  (Ss_l1In a2 0 (IntKind.i64.wrap ((↑a0.length : Int) - 1))).bind fun y =>
   bif !y.fst.fst then some ((([], []), false, ()), ())
   else
    (getI a0 a2).bind fun y =>
     (Ss_l1In a3 0 (IntKind.i64.wrap ((↑(List.length y.snd.snd) : Int) - 1))).bind fun y =>
      bif !y.fst.fst then some ((([], []), false, ()), ())
      else (Ss_l5Append [] a1.fst).bind fun y => Ls_ViewAfterRemove_5 a2 a3 a1 ([], []) (y.fst.fst, []) 0 := (Eq.trans (by kernel_rfl : Ss_ViewAfterRemove a0 a1 a2 a3 = denK Es_ViewAfterRemove (Tryz.f17.body.getD .skip) Ks_ViewAfterRemove (slots0 122 [(ty49, Mode.ro), (ty46, Mode.ro), (ty3, Mode.ro), (ty3, Mode.ro)] (a0, a1, a2, a3, ()))) (all_eq js_ViewAfterRemove_ok _)).trans (by kernel_rfl)
noncomputable def Ei_isWord : Env := mkEnv C tab_s_ViewAfterRemove [0, 1, 2, 3, 4, 5, 7] 34 (fun k => bif k == 1000004 then some 135 else none)
 (Hints.mk (fun x x_1 => none) (fun s => Nat.testBit 0 s) fun x => []) [(ty9, Mode.ro), (ty5, Mode.ro), (ty5, Mode.ro)]
noncomputable def Ki_isWord := endK C [(ty9, Mode.ro), (ty5, Mode.ro), (ty5, Mode.ro)] [(ty4, 0)] [RV.tmp 6]
noncomputable def Li_isWord_4 (x0 : ByteArray) (x1 : Int) (x2 : Int) (x7 : Int) : Option ((Bool × PUnit) × PUnit) := loopAt Ei_isWord [1, 1, 0, 1, 0] (Tryz.f211.body.getD .skip) Ki_isWord [V.d none 0 ty9 x0, V.d none 0 ty5 x1, V.d none 0 ty5 x2, V.dead, V.dead, V.dead, V.dead,
 V.d none 0 (Ty.int IntKind.i64) x7, V.dead, V.dead, V.dead, V.dead, V.dead, V.dead, V.dead, V.dead, V.dead, V.dead,
 V.dead, V.dead, V.dead, V.dead, V.dead, V.dead, V.dead, V.dead, V.dead, V.dead, V.dead, V.dead, V.dead, V.dead, V.dead,
 V.dead]
noncomputable def Si_isWord (a0 : ByteArray) (a1 : Int) (a2 : Int) : Option ((Bool × PUnit) × PUnit) := Fi_isWord.sem (a0, a1, a2, ())
def ji_isWord : List (Nat × List Nat) := [(1000004, [1, 1, 0, 1, 0])]
theorem ji_isWord_ok : okB ji_isWord (Tryz.f211.body.getD .skip) [] = true := by kernel_rfl
theorem Li_isWord_4_eq (x0 : ByteArray) (x1 : Int) (x2 : Int) (x7 : Int) : Li_isWord_4 x0 x1 x2 x7 =
  bif decide (x7 < (↑x0.size : Int)) then
 (getB x0 x7).bind fun y =>
  bif decide (y < x1) then some ((false, ()), ())
  else
   (getB x0 x7).bind fun y =>
    bif decide (y > x2) then some ((false, ()), ()) else Li_isWord_4 x0 x1 x2 (IntKind.i64.wrap (x7 + 1))
else some ((true, ()), ()) := (turn_eq ji_isWord_ok [1, 1, 0, 1, 0] (by kernel_rfl) _).trans (by kernel_rfl)
theorem Si_isWord_eq (a0 : ByteArray) (a1 : Int) (a2 : Int) : Si_isWord a0 a1 a2 =
  bif decide ((↑a0.size : Int) < 1) then some ((false, ()), ())
else bif decide ((↑a0.size : Int) > 6) then some ((false, ()), ()) else Li_isWord_4 a0 a1 a2 0 := (Eq.trans (by kernel_rfl : Si_isWord a0 a1 a2 = denK Ei_isWord (Tryz.f211.body.getD .skip) Ki_isWord (slots0 34 [(ty9, Mode.ro), (ty5, Mode.ro), (ty5, Mode.ro)] (a0, a1, a2, ()))) (all_eq ji_isWord_ok _)).trans (by kernel_rfl)
noncomputable def Ei_isName : Env := mkEnv C tab_i_isWord [0, 1] 5 (fun x => none) (Hints.mk (fun x x_1 => none) (fun s => Nat.testBit 0 s) fun x => [])
 [(ty9, Mode.ro)]
noncomputable def Ki_isName := endK C [(ty9, Mode.ro)] [(ty4, 0)] [RV.tmp 2]
noncomputable def Si_isName (a0 : ByteArray) : Option ((Bool × PUnit) × PUnit) := Fi_isName.sem (a0, ())
theorem Si_isName_eq (a0 : ByteArray) : Si_isName a0 =
  (Si_isWord a0 65 90).bind fun y => some ((y.fst.fst, ()), ()) := by kernel_rfl
noncomputable def Ei_isLabel : Env := mkEnv C tab_i_isName [0, 1] 5 (fun x => none) (Hints.mk (fun x x_1 => none) (fun s => Nat.testBit 0 s) fun x => [])
 [(ty9, Mode.ro)]
noncomputable def Ki_isLabel := endK C [(ty9, Mode.ro)] [(ty4, 0)] [RV.tmp 2]
noncomputable def Si_isLabel (a0 : ByteArray) : Option ((Bool × PUnit) × PUnit) := Fi_isLabel.sem (a0, ())
theorem Si_isLabel_eq (a0 : ByteArray) : Si_isLabel a0 =
  (Si_isWord a0 97 122).bind fun y => some ((y.fst.fst, ()), ()) := by kernel_rfl
noncomputable def Ei_IsNumber : Env := mkEnv C tab_i_isLabel [0, 1] 9 (fun x => none) (Hints.mk (fun x x_1 => none) (fun s => Nat.testBit 0 s) fun x => [])
 [(ty3, Mode.ro)]
noncomputable def Ki_IsNumber := endK C [(ty3, Mode.ro)] [(ty4, 0)] [RV.tmp 2]
noncomputable def Si_IsNumber (a0 : Int) : Option ((Bool × PUnit) × PUnit) := Fi_IsNumber.sem (a0, ())
theorem Si_IsNumber_eq (a0 : Int) : Si_IsNumber a0 =
  bif decide (a0 ≥ -400000000) then some ((decide (a0 ≤ 400000000), ()), ()) else some ((false, ()), ()) := by kernel_rfl
noncomputable def Ei_absolute : Env := mkEnv C tab_i_IsNumber [0, 1] 8 (fun x => none) (Hints.mk (fun x x_1 => none) (fun s => Nat.testBit 0 s) fun x => [])
 [(ty3, Mode.ro)]
noncomputable def Ki_absolute := endK C [(ty3, Mode.ro)] [(ty3, 0)] [RV.tmp 2]
noncomputable def Si_absolute (a0 : Int) : Option ((Int × PUnit) × PUnit) := Fi_absolute.sem (a0, ())
theorem Si_absolute_eq (a0 : Int) : Si_absolute a0 =
  bif decide (a0 < 0) then some ((IntKind.i64.wrap (0 - a0), ()), ()) else some ((a0, ()), ()) := by kernel_rfl
noncomputable def Ei_commonDivisor : Env := mkEnv C tab_i_absolute [0, 1, 2, 3] 16 (fun k => bif k == 1000002 then some 3 else none)
 (Hints.mk (fun x x_1 => none) (fun s => Nat.testBit 0 s) fun x => []) [(ty3, Mode.ro), (ty3, Mode.ro)]
noncomputable def Ki_commonDivisor := endK C [(ty3, Mode.ro), (ty3, Mode.ro)] [(ty3, 0)] [RV.tmp 4]
noncomputable def Li_commonDivisor_2 (x0 : Int) (x1 : Int) : Option ((Int × PUnit) × PUnit) := loopAt Ei_commonDivisor [1, 1, 0, 0] (Tryz.f137.body.getD .skip) Ki_commonDivisor [V.d none 0 ty3 x0, V.d none 0 ty3 x1, V.dead, V.dead, V.dead, V.dead, V.dead, V.dead, V.dead, V.dead, V.dead, V.dead,
 V.dead, V.dead, V.dead, V.dead]
noncomputable def Si_commonDivisor (a0 : Int) (a1 : Int) : Option ((Int × PUnit) × PUnit) := Fi_commonDivisor.sem (a0, a1, ())
def ji_commonDivisor : List (Nat × List Nat) := [(1000002, [1, 1, 0, 0])]
theorem ji_commonDivisor_ok : okB ji_commonDivisor (Tryz.f137.body.getD .skip) [] = true := by kernel_rfl
theorem Li_commonDivisor_2_eq (x0 : Int) (x1 : Int) : Li_commonDivisor_2 x0 x1 =
  bif x1 != 0 then bif x1 != 0 then Li_commonDivisor_2 x1 (x0.tmod x1) else none else some ((x0, ()), ()) := (turn_eq ji_commonDivisor_ok [1, 1, 0, 0] (by kernel_rfl) _).trans (by kernel_rfl)
theorem Si_commonDivisor_eq (a0 : Int) (a1 : Int) : Si_commonDivisor a0 a1 =
  (Si_absolute a0).bind fun y => (Si_absolute a1).bind fun y_1 => Li_commonDivisor_2 y.fst.fst y_1.fst.fst := (Eq.trans (by kernel_rfl : Si_commonDivisor a0 a1 = denK Ei_commonDivisor (Tryz.f137.body.getD .skip) Ki_commonDivisor (slots0 16 [(ty3, Mode.ro), (ty3, Mode.ro)] (a0, a1, ()))) (all_eq ji_commonDivisor_ok _)).trans (by kernel_rfl)
noncomputable def Ei_divisorOf : Env := mkEnv C tab_i_commonDivisor [0, 1, 3, 4, 5, 6, 10] 17 (fun k => bif k == 1000003 then some 457 else none)
 (Hints.mk (fun x x_1 => none) (fun s => Nat.testBit 0 s) fun x => []) [(ty59, Mode.ro)]
noncomputable def Ki_divisorOf := endK C [(ty59, Mode.ro)] [(ty3, 0)] [RV.tmp 2]
noncomputable def Li_divisorOf_3 (x0 : List Int) (x3 : Int) (x6 : List Int) (x7 : Int) (x8 : Int) : Option ((Int × PUnit) × PUnit) := loopAt Ei_divisorOf [1, 1, 0, 1, 0] (Tryz.f138.body.getD .skip) Ki_divisorOf [V.d none 0 ty59 x0, V.dead, V.dead, V.d none 0 (Ty.int IntKind.i64) x3, V.dead, V.dead, V.d none 0 ty59 x6,
 V.d none 0 (Ty.int IntKind.i64) x7, V.d none 0 (Ty.int IntKind.i64) x8, V.dead, V.dead, V.dead, V.dead, V.dead, V.dead,
 V.dead, V.dead]
noncomputable def Si_divisorOf (a0 : List Int) : Option ((Int × PUnit) × PUnit) := Fi_divisorOf.sem (a0, ())
def ji_divisorOf : List (Nat × List Nat) := [(1000003, [1, 1, 0, 1, 0])]
theorem ji_divisorOf_ok : okB ji_divisorOf (Tryz.f138.body.getD .skip) [] = true := by kernel_rfl
theorem Li_divisorOf_3_eq (x0 : List Int) (x3 : Int) (x6 : List Int) (x7 : Int) (x8 : Int) : Li_divisorOf_3 x0 x3 x6 x7 x8 =
  bif decide (x8 < x7) then
 (getI x6 x8).bind fun y =>
  (Si_commonDivisor x3 y).bind fun y => Li_divisorOf_3 x0 y.fst.fst x6 x7 (IntKind.i64.wrap (x8 + 1))
else some ((x3, ()), ()) := (turn_eq ji_divisorOf_ok [1, 1, 0, 1, 0] (by kernel_rfl) _).trans (by kernel_rfl)
theorem Si_divisorOf_eq (a0 : List Int) : Si_divisorOf a0 =
  Li_divisorOf_3 a0 0 a0 (↑a0.length : Int) 0 := (Eq.trans (by kernel_rfl : Si_divisorOf a0 = denK Ei_divisorOf (Tryz.f138.body.getD .skip) Ki_divisorOf (slots0 17 [(ty59, Mode.ro)] (a0, ()))) (all_eq ji_divisorOf_ok _)).trans (by kernel_rfl)
noncomputable def Ei_IsAtom : Env := mkEnv C tab_i_divisorOf [0, 1, 3, 4, 5, 10, 15, 16, 20, 26, 29] 33
 (fun k => bif k == 1 then some 6 else bif k == 3 then some 6 else bif k == 1000004 then some 458754 else none)
 (Hints.mk (fun x x_1 => none) (fun s => Nat.testBit 2 s) fun r => bif r == 1 then [6, 16, 20, 27] else [])
 [(ty85, Mode.ro)]
noncomputable def Ki_IsAtom := endK C [(ty85, Mode.ro)] [(ty4, 0)] [RV.tmp 2]
noncomputable def Li_IsAtom_4 (x1 : Atm) (x16 : List Int) (x17 : Int) (x18 : Int) : Option ((Bool × PUnit) × PUnit) := loopAt Ei_IsAtom [1, 1, 0, 1, 0] (Tryz.f139.body.getD .skip) Ki_IsAtom [V.dead, V.box none 0 ty85 x1, V.dead, V.dead, V.dead, V.dead, V.dead, V.dead, V.dead, V.dead, V.dead, V.dead, V.dead,
 V.dead, V.dead, V.dead, V.d none 0 ty59 x16, V.d none 0 (Ty.int IntKind.i64) x17, V.d none 0 (Ty.int IntKind.i64) x18,
 V.dead, V.dead, V.dead, V.dead, V.dead, V.dead, V.dead, V.dead, V.dead, V.dead, V.dead, V.dead, V.dead, V.dead]
noncomputable def Si_IsAtom (a0 : Atm) : Option ((Bool × PUnit) × PUnit) := Fi_IsAtom.sem (a0, ())
def ji_IsAtom : List (Nat × List Nat) := [(1000004, [1, 1, 0, 1, 0])]
theorem ji_IsAtom_ok : okB ji_IsAtom (Tryz.f139.body.getD .skip) [] = true := by kernel_rfl
theorem Li_IsAtom_4_eq (x1 : Atm) (x16 : List Int) (x17 : Int) (x18 : Int) : Li_IsAtom_4 x1 x16 x17 x18 =
  bif decide (x18 < x17) then
 (getI x16 x18).bind fun y =>
  (Si_IsNumber y).bind fun y =>
   bif !y.fst.fst then some ((false, ()), ()) else Li_IsAtom_4 x1 x16 x17 (IntKind.i64.wrap (x18 + 1))
else
 (Si_divisorOf x1.fst).bind fun y =>
  (Si_commonDivisor y.fst.fst x1.snd.fst).bind fun y => some ((decide (y.fst.fst ≤ 1), ()), ()) := (turn_eq ji_IsAtom_ok [1, 1, 0, 1, 0] (by kernel_rfl) _).trans (by kernel_rfl)
theorem Si_IsAtom_eq (a0 : Atm) : Si_IsAtom a0 =
  bif decide ((↑(List.length a0.fst) : Int) > 4) then some ((false, ()), ())
else
 (Si_IsNumber a0.snd.fst).bind fun y =>
  bif !y.fst.fst then some ((false, ()), ()) else Li_IsAtom_4 a0 a0.fst (↑(List.length a0.fst) : Int) 0 := (Eq.trans (by kernel_rfl : Si_IsAtom a0 = denK Ei_IsAtom (Tryz.f139.body.getD .skip) Ki_IsAtom (slots0 33 [(ty85, Mode.ro)] (a0, ()))) (all_eq ji_IsAtom_ok _)).trans (by kernel_rfl)
noncomputable def Ei_IsCell : Env := mkEnv C tab_i_IsAtom [0, 1, 3, 4, 5, 9, 14, 19, 20, 24, 30, 33] 38
 (fun k =>
  bif k == 1 then some 6
  else
   bif k == 3 then some 6
   else
    bif k == 5 then some 7340038 else bif k == 6 then some 7340054 else bif k == 1000004 then some 7340034 else none)
 (Hints.mk (fun x x_1 => none) (fun s => Nat.testBit 18 s) fun r =>
  bif r == 1 then [15, 20, 24, 25] else bif r == 4 then [26, 31] else [])
 [(ty83, Mode.ro)]
noncomputable def Ki_IsCell := endK C [(ty83, Mode.ro)] [(ty4, 0)] [RV.tmp 2]
noncomputable def Li_IsCell_4 (x1 : Int × List Atm) (x20 : List Atm) (x21 : Int) (x22 : Int) : Option ((Bool × PUnit) × PUnit) := loopAt Ei_IsCell [1, 1, 0, 1, 0] (Tryz.f116.body.getD .skip) Ki_IsCell [V.dead, V.box none 0 ty83 x1, V.dead, V.dead, V.dead, V.dead, V.dead, V.dead, V.dead, V.dead, V.dead, V.dead, V.dead,
 V.dead, V.dead, V.dead, V.dead, V.dead, V.dead, V.dead, V.d none 0 (Ty.slice 85 ty85) x20,
 V.d none 0 (Ty.int IntKind.i64) x21, V.d none 0 (Ty.int IntKind.i64) x22, V.dead, V.dead, V.dead, V.dead, V.dead,
 V.dead, V.dead, V.dead, V.dead, V.dead, V.dead, V.dead, V.dead, V.dead, V.dead]
noncomputable def Si_IsCell (a0 : Int × List Atm) : Option ((Bool × PUnit) × PUnit) := Fi_IsCell.sem (a0, ())
def ji_IsCell : List (Nat × List Nat) := [(1000004, [1, 1, 0, 1, 0])]
theorem ji_IsCell_ok : okB ji_IsCell (Tryz.f116.body.getD .skip) [] = true := by kernel_rfl
theorem Li_IsCell_4_eq (x1 : Int × List Atm) (x20 : List Atm) (x21 : Int) (x22 : Int) : Li_IsCell_4 x1 x20 x21 x22 =
  bif decide (x22 < x21) then
 (getI x20 x22).bind fun y =>
  (Si_IsAtom y).bind fun y_1 =>
   bif !y_1.fst.fst then some ((false, ()), ())
   else
    bif (↑(List.length y.fst) : Int) != x1.fst then some ((false, ()), ())
    else Li_IsCell_4 x1 x20 x21 (IntKind.i64.wrap (x22 + 1))
else some ((true, ()), ()) := (turn_eq ji_IsCell_ok [1, 1, 0, 1, 0] (by kernel_rfl) _).trans (by kernel_rfl)
theorem Si_IsCell_eq (a0 : Int × List Atm) : Si_IsCell a0 =
  bif decide (a0.fst < 0) then some ((false, ()), ())
else
 bif decide (a0.fst > 4) then some ((false, ()), ())
 else
  bif decide ((↑(List.length a0.snd) : Int) > 16) then some ((false, ()), ())
  else Li_IsCell_4 a0 a0.snd (↑(List.length a0.snd) : Int) 0 := (Eq.trans (by kernel_rfl : Si_IsCell a0 = denK Ei_IsCell (Tryz.f116.body.getD .skip) Ki_IsCell (slots0 38 [(ty83, Mode.ro)] (a0, ()))) (all_eq ji_IsCell_ok _)).trans (by kernel_rfl)
noncomputable def Ei_IsRelation : Env := mkEnv C tab_i_IsCell [0, 1, 3, 4, 5, 10, 15, 20, 25, 26, 30, 32, 37, 43, 44, 46] 51
 (fun k =>
  bif k == 1 then some 6
  else bif k == 3 then some 6 else bif k == 5 then some 469762054 else bif k == 1000004 then some 469762050 else none)
 (Hints.mk (fun x x_1 => none) (fun s => Nat.testBit 18 s) fun r =>
  bif r == 1 then [21, 26, 30, 31] else bif r == 4 then [38] else [])
 [(ty117, Mode.ro)]
noncomputable def Ki_IsRelation := endK C [(ty117, Mode.ro)] [(ty4, 0)] [RV.tmp 2]
noncomputable def Li_IsRelation_4 (x1 : ByteArray × Int × List Rw) (x26 : List Rw) (x27 : Int) (x28 : Int) : Option ((Bool × PUnit) × PUnit) := loopAt Ei_IsRelation [1, 1, 0, 1, 0] (Tryz.f204.body.getD .skip) Ki_IsRelation [V.dead, V.box none 0 ty117 x1, V.dead, V.dead, V.dead, V.dead, V.dead, V.dead, V.dead, V.dead, V.dead, V.dead, V.dead,
 V.dead, V.dead, V.dead, V.dead, V.dead, V.dead, V.dead, V.dead, V.dead, V.dead, V.dead, V.dead, V.dead,
 V.d none 0 (Ty.slice 184 ty184) x26, V.d none 0 (Ty.int IntKind.i64) x27, V.d none 0 (Ty.int IntKind.i64) x28, V.dead,
 V.dead, V.dead, V.dead, V.dead, V.dead, V.dead, V.dead, V.dead, V.dead, V.dead, V.dead, V.dead, V.dead, V.dead, V.dead,
 V.dead, V.dead, V.dead, V.dead, V.dead, V.dead]
noncomputable def Si_IsRelation (a0 : ByteArray × Int × List Rw) : Option ((Bool × PUnit) × PUnit) := Fi_IsRelation.sem (a0, ())
def ji_IsRelation : List (Nat × List Nat) := [(1000004, [1, 1, 0, 1, 0])]
theorem ji_IsRelation_ok : okB ji_IsRelation (Tryz.f204.body.getD .skip) [] = true := by kernel_rfl
theorem Li_IsRelation_4_eq (x1 : ByteArray × Int × List Rw) (x26 : List Rw) (x27 : Int) (x28 : Int) : Li_IsRelation_4 x1 x26 x27 x28 =
  bif decide (x28 < x27) then
 (getI x26 x28).bind fun y =>
  (Si_isLabel y.fst).bind fun y_1 =>
   bif !y_1.fst.fst then some ((false, ()), ())
   else
    (Si_IsCell y.snd).bind fun y_2 =>
     bif !y_2.fst.fst then some ((false, ()), ())
     else
      bif y.snd.fst != x1.snd.fst then some ((false, ()), ())
      else Li_IsRelation_4 x1 x26 x27 (IntKind.i64.wrap (x28 + 1))
else some ((true, ()), ()) := (turn_eq ji_IsRelation_ok [1, 1, 0, 1, 0] (by kernel_rfl) _).trans (by kernel_rfl)
theorem Si_IsRelation_eq (a0 : ByteArray × Int × List Rw) : Si_IsRelation a0 =
  (Si_isName a0.fst).bind fun y =>
 bif !y.fst.fst then some ((false, ()), ())
 else
  bif decide (a0.snd.fst < 0) then some ((false, ()), ())
  else
   bif decide (a0.snd.fst > 4) then some ((false, ()), ())
   else
    bif decide ((↑(List.length a0.snd.snd) : Int) > 8) then some ((false, ()), ())
    else Li_IsRelation_4 a0 a0.snd.snd (↑(List.length a0.snd.snd) : Int) 0 := (Eq.trans (by kernel_rfl : Si_IsRelation a0 = denK Ei_IsRelation (Tryz.f204.body.getD .skip) Ki_IsRelation (slots0 51 [(ty117, Mode.ro)] (a0, ()))) (all_eq ji_IsRelation_ok _)).trans (by kernel_rfl)
noncomputable def Ei_FindRelation : Env := mkEnv C tab_i_IsRelation [0, 1, 2, 3, 5, 6, 7, 12, 14] 20
 (fun k => bif k == 1 then some 19 else bif k == 3 then some 915 else bif k == 1000002 then some 899 else none)
 (Hints.mk (fun x x_1 => none) (fun s => Nat.testBit 64 s) fun r => bif r == 6 then [] else [])
 [(ty49, Mode.ro), (ty9, Mode.ro)]
noncomputable def Ki_FindRelation := endK C [(ty49, Mode.ro), (ty9, Mode.ro)] [(ty3, 0)] [RV.tmp 4]
noncomputable def Li_FindRelation_2 (x0 : List Rel) (x1 : ByteArray) (x7 : List Rel) (x8 : Int) (x9 : Int) : Option ((Int × PUnit) × PUnit) := loopAt Ei_FindRelation [1, 0, 1, 0] (Tryz.f205.body.getD .skip) Ki_FindRelation [V.d none 0 ty49 x0, V.d none 0 ty9 x1, V.dead, V.dead, V.dead, V.dead, V.dead, V.d none 0 ty49 x7,
 V.d none 0 (Ty.int IntKind.i64) x8, V.d none 0 (Ty.int IntKind.i64) x9, V.dead, V.dead, V.dead, V.dead, V.dead, V.dead,
 V.dead, V.dead, V.dead, V.dead]
noncomputable def Si_FindRelation (a0 : List Rel) (a1 : ByteArray) : Option ((Int × PUnit) × PUnit) := Fi_FindRelation.sem (a0, a1, ())
def ji_FindRelation : List (Nat × List Nat) := [(1000002, [1, 0, 1, 0])]
theorem ji_FindRelation_ok : okB ji_FindRelation (Tryz.f205.body.getD .skip) [] = true := by kernel_rfl
theorem Li_FindRelation_2_eq (x0 : List Rel) (x1 : ByteArray) (x7 : List Rel) (x8 : Int) (x9 : Int) : Li_FindRelation_2 x0 x1 x7 x8 x9 =
  bif decide (x9 < x8) then
 (getI x7 x9).bind fun y =>
  bif ByteArray.toList y.fst == x1.toList then some ((x9, ()), ())
  else Li_FindRelation_2 x0 x1 x7 x8 (IntKind.i64.wrap (x9 + 1))
else some ((-1, ()), ()) := (turn_eq ji_FindRelation_ok [1, 0, 1, 0] (by kernel_rfl) _).trans (by kernel_rfl)
theorem Si_FindRelation_eq (a0 : List Rel) (a1 : ByteArray) : Si_FindRelation a0 a1 =
  Li_FindRelation_2 a0 a1 a0 (↑a0.length : Int) 0 := (Eq.trans (by kernel_rfl : Si_FindRelation a0 a1 = denK Ei_FindRelation (Tryz.f205.body.getD .skip) Ki_FindRelation (slots0 20 [(ty49, Mode.ro), (ty9, Mode.ro)] (a0, a1, ()))) (all_eq ji_FindRelation_ok _)).trans (by kernel_rfl)
noncomputable def Ei_IsDatabase : Env := mkEnv C tab_i_FindRelation [0, 1, 3, 4, 8, 13, 20] 27
 (fun k =>
  bif k == 1 then some 5
  else bif k == 3 then some 5 else bif k == 5 then some 1797 else bif k == 1000004 then some 1793 else none)
 (Hints.mk (fun x x_1 => none) (fun s => Nat.testBit 16 s) fun r => bif r == 4 then [15] else []) [(ty49, Mode.ro)]
noncomputable def Ki_IsDatabase := endK C [(ty49, Mode.ro)] [(ty4, 0)] [RV.tmp 2]
noncomputable def Li_IsDatabase_4 (x0 : List Rel) (x8 : List Rel) (x9 : Int) (x10 : Int) : Option ((Bool × PUnit) × PUnit) := loopAt Ei_IsDatabase [1, 1, 0, 1, 0] (Tryz.f188.body.getD .skip) Ki_IsDatabase [V.d none 0 ty49 x0, V.dead, V.dead, V.dead, V.dead, V.dead, V.dead, V.dead, V.d none 0 ty49 x8,
 V.d none 0 (Ty.int IntKind.i64) x9, V.d none 0 (Ty.int IntKind.i64) x10, V.dead, V.dead, V.dead, V.dead, V.dead,
 V.dead, V.dead, V.dead, V.dead, V.dead, V.dead, V.dead, V.dead, V.dead, V.dead, V.dead]
noncomputable def Si_IsDatabase (a0 : List Rel) : Option ((Bool × PUnit) × PUnit) := Fi_IsDatabase.sem (a0, ())
def ji_IsDatabase : List (Nat × List Nat) := [(1000004, [1, 1, 0, 1, 0])]
theorem ji_IsDatabase_ok : okB ji_IsDatabase (Tryz.f188.body.getD .skip) [] = true := by kernel_rfl
theorem Li_IsDatabase_4_eq (x0 : List Rel) (x8 : List Rel) (x9 : Int) (x10 : Int) : Li_IsDatabase_4 x0 x8 x9 x10 =
  bif decide (x10 < x9) then
 (getI x8 x10).bind fun y =>
  (Si_IsRelation y).bind fun y_1 =>
   bif !y_1.fst.fst then some ((false, ()), ())
   else
    (Si_FindRelation x0 y.fst).bind fun y =>
     bif y.fst.fst != x10 then some ((false, ()), ()) else Li_IsDatabase_4 x0 x8 x9 (IntKind.i64.wrap (x10 + 1))
else some ((true, ()), ()) := (turn_eq ji_IsDatabase_ok [1, 1, 0, 1, 0] (by kernel_rfl) _).trans (by kernel_rfl)
theorem Si_IsDatabase_eq (a0 : List Rel) : Si_IsDatabase a0 =
  bif decide ((↑a0.length : Int) > 6) then some ((false, ()), ()) else Li_IsDatabase_4 a0 a0 (↑a0.length : Int) 0 := (Eq.trans (by kernel_rfl : Si_IsDatabase a0 = denK Ei_IsDatabase (Tryz.f188.body.getD .skip) Ki_IsDatabase (slots0 27 [(ty49, Mode.ro)] (a0, ()))) (all_eq ji_IsDatabase_ok _)).trans (by kernel_rfl)
noncomputable def Ei_isZeroAtom : Env := mkEnv C tab_i_IsDatabase [0, 1, 3, 8, 13] 17 (fun k => bif k == 1 then some 6 else none)
 (Hints.mk (fun x x_1 => none) (fun s => Nat.testBit 2 s) fun r => bif r == 1 then [4] else []) [(ty85, Mode.ro)]
noncomputable def Ki_isZeroAtom := endK C [(ty85, Mode.ro)] [(ty4, 0)] [RV.tmp 2]
noncomputable def Si_isZeroAtom (a0 : Atm) : Option ((Bool × PUnit) × PUnit) := Fi_isZeroAtom.sem (a0, ())
theorem Si_isZeroAtom_eq (a0 : Atm) : Si_isZeroAtom a0 =
  bif (↑(List.length a0.fst) : Int) == 0 then
 bif a0.snd.fst == 0 then some ((!a0.snd.snd, ()), ()) else some ((false, ()), ())
else some ((false, ()), ()) := by kernel_rfl
noncomputable def Ei_isVariable : Env := mkEnv C tab_i_isZeroAtom [0, 1] 9 (fun x => none) (Hints.mk (fun x x_1 => none) (fun s => Nat.testBit 0 s) fun x => [])
 [(ty3, Mode.ro)]
noncomputable def Ki_isVariable := endK C [(ty3, Mode.ro)] [(ty4, 0)] [RV.tmp 2]
noncomputable def Si_isVariable (a0 : Int) : Option ((Bool × PUnit) × PUnit) := Fi_isVariable.sem (a0, ())
theorem Si_isVariable_eq (a0 : Int) : Si_isVariable a0 =
  bif decide (a0 ≥ 0) then some ((decide (a0 < 4), ()), ()) else some ((false, ()), ()) := by kernel_rfl
noncomputable def Ei_fieldsFit : Env := mkEnv C tab_i_isVariable
 [0, 1, 2, 3, 5, 6, 7, 8, 12, 17, 21, 25, 30, 36, 40, 44, 49, 50, 58, 61, 69, 71, 72, 74, 80, 84, 90, 91, 95, 104, 107]
 110
 (fun k =>
  bif k == 3 then some 25
  else
   bif k == 7 then some 24
   else
    bif k == 10 then some 57
    else
     bif k == 12 then some 24
     else
      bif k == 1000013 then some 17331160549995323848587739144
      else
       bif k == 2000003 then some 9
       else
        bif k == 2000005 then some 9
        else bif k == 2000012 then some 8 else bif k == 2000021 then some 2535301200456458802993406410760 else none)
 (Hints.mk (fun x x_1 => none) (fun s => Nat.testBit 8 s) fun r => bif r == 3 then [13, 31, 45, 51, 75, 91, 95] else [])
 [(ty49, Mode.ro), (ty173, Mode.ro)]
noncomputable def Ki_fieldsFit := endK C [(ty49, Mode.ro), (ty173, Mode.ro)] [(ty4, 0)] [RV.tmp 4]
noncomputable def Li_fieldsFit_13 (x3 : Int × Atm × ByteArray × ByteArray × List Int × Int × Int × Int) (x91 : List Int) (x92 : Int) (x93 : Int) : Option ((Bool × PUnit) × PUnit) := loopAt Ei_fieldsFit [1, 1, 1, 0, 1, 0, 1, 1, 1, 0, 1, 1, 0, 1, 0] (Tryz.f189.body.getD .skip) Ki_fieldsFit [V.dead, V.dead, V.dead, V.box none 0 ty173 x3, V.dead, V.dead, V.dead, V.dead, V.dead, V.dead, V.dead, V.dead, V.dead,
 V.dead, V.dead, V.dead, V.dead, V.dead, V.dead, V.dead, V.dead, V.dead, V.dead, V.dead, V.dead, V.dead, V.dead, V.dead,
 V.dead, V.dead, V.dead, V.dead, V.dead, V.dead, V.dead, V.dead, V.dead, V.dead, V.dead, V.dead, V.dead, V.dead, V.dead,
 V.dead, V.dead, V.dead, V.dead, V.dead, V.dead, V.dead, V.dead, V.dead, V.dead, V.dead, V.dead, V.dead, V.dead, V.dead,
 V.dead, V.dead, V.dead, V.dead, V.dead, V.dead, V.dead, V.dead, V.dead, V.dead, V.dead, V.dead, V.dead, V.dead, V.dead,
 V.dead, V.dead, V.dead, V.dead, V.dead, V.dead, V.dead, V.dead, V.dead, V.dead, V.dead, V.dead, V.dead, V.dead, V.dead,
 V.dead, V.dead, V.dead, V.d none 0 ty59 x91, V.d none 0 (Ty.int IntKind.i64) x92, V.d none 0 (Ty.int IntKind.i64) x93,
 V.dead, V.dead, V.dead, V.dead, V.dead, V.dead, V.dead, V.dead, V.dead, V.dead, V.dead, V.dead, V.dead, V.dead, V.dead,
 V.dead]
noncomputable def Ji_fieldsFit_12 (x3 : Int × Atm × ByteArray × ByteArray × List Int × Int × Int × Int) : Option ((Bool × PUnit) × PUnit) := joinAt Ei_fieldsFit [1, 1, 1, 0, 1, 0, 1, 1, 1, 0, 1, 1] (Tryz.f189.body.getD .skip) Ki_fieldsFit [V.dead, V.dead, V.dead, V.box none 0 ty173 x3, V.dead, V.dead, V.dead, V.dead, V.dead, V.dead, V.dead, V.dead, V.dead,
 V.dead, V.dead, V.dead, V.dead, V.dead, V.dead, V.dead, V.dead, V.dead, V.dead, V.dead, V.dead, V.dead, V.dead, V.dead,
 V.dead, V.dead, V.dead, V.dead, V.dead, V.dead, V.dead, V.dead, V.dead, V.dead, V.dead, V.dead, V.dead, V.dead, V.dead,
 V.dead, V.dead, V.dead, V.dead, V.dead, V.dead, V.dead, V.dead, V.dead, V.dead, V.dead, V.dead, V.dead, V.dead, V.dead,
 V.dead, V.dead, V.dead, V.dead, V.dead, V.dead, V.dead, V.dead, V.dead, V.dead, V.dead, V.dead, V.dead, V.dead, V.dead,
 V.dead, V.dead, V.dead, V.dead, V.dead, V.dead, V.dead, V.dead, V.dead, V.dead, V.dead, V.dead, V.dead, V.dead, V.dead,
 V.dead, V.dead, V.dead, V.dead, V.dead, V.dead, V.dead, V.dead, V.dead, V.dead, V.dead, V.dead, V.dead, V.dead, V.dead,
 V.dead, V.dead, V.dead, V.dead, V.dead, V.dead, V.dead]
noncomputable def Ji_fieldsFit_21 (x3 : Int × Atm × ByteArray × ByteArray × List Int × Int × Int × Int) (x101 : Bool) : Option ((Bool × PUnit) × PUnit) := joinAt Ei_fieldsFit [1, 1, 1, 0, 1, 0, 1, 1, 1, 1, 1] (Tryz.f189.body.getD .skip) Ki_fieldsFit [V.dead, V.dead, V.dead, V.box none 0 ty173 x3, V.dead, V.dead, V.dead, V.dead, V.dead, V.dead, V.dead, V.dead, V.dead,
 V.dead, V.dead, V.dead, V.dead, V.dead, V.dead, V.dead, V.dead, V.dead, V.dead, V.dead, V.dead, V.dead, V.dead, V.dead,
 V.dead, V.dead, V.dead, V.dead, V.dead, V.dead, V.dead, V.dead, V.dead, V.dead, V.dead, V.dead, V.dead, V.dead, V.dead,
 V.dead, V.dead, V.dead, V.dead, V.dead, V.dead, V.dead, V.dead, V.dead, V.dead, V.dead, V.dead, V.dead, V.dead, V.dead,
 V.dead, V.dead, V.dead, V.dead, V.dead, V.dead, V.dead, V.dead, V.dead, V.dead, V.dead, V.dead, V.dead, V.dead, V.dead,
 V.dead, V.dead, V.dead, V.dead, V.dead, V.dead, V.dead, V.dead, V.dead, V.dead, V.dead, V.dead, V.dead, V.dead, V.dead,
 V.dead, V.dead, V.dead, V.dead, V.dead, V.dead, V.dead, V.dead, V.dead, V.dead, V.dead, V.dead, V.dead,
 V.d none 0 Ty.bool x101, V.dead, V.dead, V.dead, V.dead, V.dead, V.dead, V.dead, V.dead]
noncomputable def Ji_fieldsFit_5 (x0 : List Rel) (x3 : Int × Atm × ByteArray × ByteArray × List Int × Int × Int × Int) : Option ((Bool × PUnit) × PUnit) := joinAt Ei_fieldsFit [1, 1, 1] (Tryz.f189.body.getD .skip) Ki_fieldsFit [V.d none 0 ty49 x0, V.dead, V.dead, V.box none 0 ty173 x3, V.dead, V.dead, V.dead, V.dead, V.dead, V.dead, V.dead,
 V.dead, V.dead, V.dead, V.dead, V.dead, V.dead, V.dead, V.dead, V.dead, V.dead, V.dead, V.dead, V.dead, V.dead, V.dead,
 V.dead, V.dead, V.dead, V.dead, V.dead, V.dead, V.dead, V.dead, V.dead, V.dead, V.dead, V.dead, V.dead, V.dead, V.dead,
 V.dead, V.dead, V.dead, V.dead, V.dead, V.dead, V.dead, V.dead, V.dead, V.dead, V.dead, V.dead, V.dead, V.dead, V.dead,
 V.dead, V.dead, V.dead, V.dead, V.dead, V.dead, V.dead, V.dead, V.dead, V.dead, V.dead, V.dead, V.dead, V.dead, V.dead,
 V.dead, V.dead, V.dead, V.dead, V.dead, V.dead, V.dead, V.dead, V.dead, V.dead, V.dead, V.dead, V.dead, V.dead, V.dead,
 V.dead, V.dead, V.dead, V.dead, V.dead, V.dead, V.dead, V.dead, V.dead, V.dead, V.dead, V.dead, V.dead, V.dead, V.dead,
 V.dead, V.dead, V.dead, V.dead, V.dead, V.dead, V.dead, V.dead, V.dead]
noncomputable def Ji_fieldsFit_3 (x0 : List Rel) (x3 : Int × Atm × ByteArray × ByteArray × List Int × Int × Int × Int) : Option ((Bool × PUnit) × PUnit) := joinAt Ei_fieldsFit [1, 1] (Tryz.f189.body.getD .skip) Ki_fieldsFit [V.d none 0 ty49 x0, V.dead, V.dead, V.box none 0 ty173 x3, V.dead, V.dead, V.dead, V.dead, V.dead, V.dead, V.dead,
 V.dead, V.dead, V.dead, V.dead, V.dead, V.dead, V.dead, V.dead, V.dead, V.dead, V.dead, V.dead, V.dead, V.dead, V.dead,
 V.dead, V.dead, V.dead, V.dead, V.dead, V.dead, V.dead, V.dead, V.dead, V.dead, V.dead, V.dead, V.dead, V.dead, V.dead,
 V.dead, V.dead, V.dead, V.dead, V.dead, V.dead, V.dead, V.dead, V.dead, V.dead, V.dead, V.dead, V.dead, V.dead, V.dead,
 V.dead, V.dead, V.dead, V.dead, V.dead, V.dead, V.dead, V.dead, V.dead, V.dead, V.dead, V.dead, V.dead, V.dead, V.dead,
 V.dead, V.dead, V.dead, V.dead, V.dead, V.dead, V.dead, V.dead, V.dead, V.dead, V.dead, V.dead, V.dead, V.dead, V.dead,
 V.dead, V.dead, V.dead, V.dead, V.dead, V.dead, V.dead, V.dead, V.dead, V.dead, V.dead, V.dead, V.dead, V.dead, V.dead,
 V.dead, V.dead, V.dead, V.dead, V.dead, V.dead, V.dead, V.dead, V.dead]
noncomputable def Si_fieldsFit (a0 : List Rel) (a1 : Int × Atm × ByteArray × ByteArray × List Int × Int × Int × Int) : Option ((Bool × PUnit) × PUnit) := Fi_fieldsFit.sem (a0, a1, ())
def ji_fieldsFit : List (Nat × List Nat) := [(2000003, [1, 1]), (2000005, [1, 1, 1]), (2000012, [1, 1, 1, 0, 1, 0, 1, 1, 1, 0, 1, 1]), (1000013, [1, 1, 1, 0, 1, 0, 1, 1, 1, 0, 1, 1, 0, 1, 0]), (2000021, [1, 1, 1, 0, 1, 0, 1, 1, 1, 1, 1])]
theorem ji_fieldsFit_ok : okB ji_fieldsFit (Tryz.f189.body.getD .skip) [] = true := by kernel_rfl
theorem Li_fieldsFit_13_eq (x3 : Int × Atm × ByteArray × ByteArray × List Int × Int × Int × Int) (x91 : List Int) (x92 : Int) (x93 : Int) : Li_fieldsFit_13 x3 x91 x92 x93 =
  bif decide (x93 < x92) then
 (getI x91 x93).bind fun y =>
  (Si_isVariable y).bind fun y =>
   bif !y.fst.fst then some ((false, ()), ()) else Li_fieldsFit_13 x3 x91 x92 (IntKind.i64.wrap (x93 + 1))
else some ((true, ()), ()) := (turn_eq ji_fieldsFit_ok [1, 1, 1, 0, 1, 0, 1, 1, 1, 0, 1, 1, 0, 1, 0] (by kernel_rfl) _).trans (by kernel_rfl)
theorem Ji_fieldsFit_12_eq (x3 : Int × Atm × ByteArray × ByteArray × List Int × Int × Int × Int) : Ji_fieldsFit_12 x3 =
  Li_fieldsFit_13 x3 x3.snd.snd.snd.snd.fst (↑(List.length x3.snd.snd.snd.snd.fst) : Int) 0 := (join_eq ji_fieldsFit_ok [1, 1, 1, 0, 1, 0, 1, 1, 1, 0, 1, 1] _).trans (by kernel_rfl)
theorem Ji_fieldsFit_21_eq (x3 : Int × Atm × ByteArray × ByteArray × List Int × Int × Int × Int) (x101 : Bool) : Ji_fieldsFit_21 x3 x101 =
  bif x101 then (Si_isVariable x3.snd.snd.snd.snd.snd.fst).bind fun y => some ((y.fst.fst, ()), ())
else some ((x3.snd.snd.snd.snd.snd.fst == 0, ()), ()) := (join_eq ji_fieldsFit_ok [1, 1, 1, 0, 1, 0, 1, 1, 1, 1, 1] _).trans (by kernel_rfl)
theorem Ji_fieldsFit_5_eq (x0 : List Rel) (x3 : Int × Atm × ByteArray × ByteArray × List Int × Int × Int × Int) : Ji_fieldsFit_5 x0 x3 =
  bif x3.fst == 0 then
 bif x3.snd.snd.snd.snd.snd.fst == 0 then
  (Si_IsAtom x3.snd.fst).bind fun y =>
   bif y.fst.fst then some (((↑(List.length x3.snd.fst.fst) : Int) == 4, ()), ()) else some ((false, ()), ())
 else some ((false, ()), ())
else
 bif x3.fst == 1 then
  (Si_FindRelation x0 x3.snd.snd.fst).bind fun y =>
   bif x3.snd.snd.snd.snd.snd.fst != 0 then some ((false, ()), ())
   else
    bif decide (y.fst.fst < 0) then some ((false, ()), ())
    else
     (getI x0 y.fst.fst).bind fun y =>
      bif y.snd.fst != (↑(List.length x3.snd.snd.snd.snd.fst) : Int) then some ((false, ()), ())
      else
       bif !ByteArray.toList x3.snd.snd.snd.fst == (ByteArray.mk #[]).toList then
        (Si_isLabel x3.snd.snd.snd.fst).bind fun y => bif !y.fst.fst then some ((false, ()), ()) else Ji_fieldsFit_12 x3
       else Ji_fieldsFit_12 x3
 else bif x3.fst == 5 then Ji_fieldsFit_21 x3 true else Ji_fieldsFit_21 x3 (x3.fst == 6) := (join_eq ji_fieldsFit_ok [1, 1, 1] _).trans (by kernel_rfl)
theorem Ji_fieldsFit_3_eq (x0 : List Rel) (x3 : Int × Atm × ByteArray × ByteArray × List Int × Int × Int × Int) : Ji_fieldsFit_3 x0 x3 =
  bif x3.fst != 1 then
 bif !ByteArray.toList x3.snd.snd.fst == (ByteArray.mk #[]).toList then some ((false, ()), ())
 else
  bif !ByteArray.toList x3.snd.snd.snd.fst == (ByteArray.mk #[]).toList then some ((false, ()), ())
  else
   bif decide ((↑(List.length x3.snd.snd.snd.snd.fst) : Int) > 0) then some ((false, ()), ()) else Ji_fieldsFit_5 x0 x3
else Ji_fieldsFit_5 x0 x3 := (join_eq ji_fieldsFit_ok [1, 1] _).trans (by kernel_rfl)
theorem Si_fieldsFit_eq (a0 : List Rel) (a1 : Int × Atm × ByteArray × ByteArray × List Int × Int × Int × Int) : Si_fieldsFit a0 a1 =
  bif a1.fst != 0 then
 (Si_isZeroAtom a1.snd.fst).bind fun y => bif !y.fst.fst then some ((false, ()), ()) else Ji_fieldsFit_3 a0 a1
else Ji_fieldsFit_3 a0 a1 := (Eq.trans (by kernel_rfl : Si_fieldsFit a0 a1 = denK Ei_fieldsFit (Tryz.f189.body.getD .skip) Ki_fieldsFit (slots0 110 [(ty49, Mode.ro), (ty173, Mode.ro)] (a0, a1, ()))) (all_eq ji_fieldsFit_ok _)).trans (by kernel_rfl)
noncomputable def Ei_partsIn : Env := mkEnv C tab_i_fieldsFit [0, 1] 14 (fun x => none) (Hints.mk (fun x x_1 => none) (fun s => Nat.testBit 0 s) fun x => [])
 [(ty3, Mode.ro)]
noncomputable def Ki_partsIn := endK C [(ty3, Mode.ro)] [(ty3, 0)] [RV.tmp 2]
noncomputable def Si_partsIn (a0 : Int) : Option ((Int × PUnit) × PUnit) := Fi_partsIn.sem (a0, ())
theorem Si_partsIn_eq (a0 : Int) : Si_partsIn a0 =
  bif a0 == 0 then some ((0, ()), ())
else
 bif a0 == 1 then some ((0, ()), ())
 else
  bif a0 == 2 then some ((1, ()), ())
  else
   bif a0 == 5 then some ((1, ()), ())
   else
    bif a0 == 6 then some ((1, ()), ())
    else bif a0 == 3 then some ((2, ()), ()) else bif a0 == 4 then some ((2, ()), ()) else some ((-1, ()), ()) := by kernel_rfl
noncomputable def Ei_IsFormula : Env := mkEnv C tab_i_partsIn
 [0, 1, 2, 3, 5, 6, 7, 24, 29, 35, 40, 44, 48, 57, 64, 68, 70, 73, 81, 88, 91, 96, 98, 101, 106, 108, 109, 111, 115,
  119]
 122
 (fun k =>
  bif k == 1 then some 19
  else
   bif k == 3 then some 19
   else
    bif k == 4 then some 51
    else
     bif k == 6 then some 117440563
     else
      bif k == 14 then some 117440627
      else
       bif k == 18 then some 117440627
       else
        bif k == 22 then some 117440755
        else
         bif k == 24 then some 50
         else bif k == 1000005 then some 117440547 else bif k == 2000023 then some 117440547 else none)
 (Hints.mk (fun x x_1 => none) (fun s => Nat.testBit 128 s) fun r => bif r == 7 then [32, 111] else [])
 [(ty49, Mode.ro), (ty43, Mode.ro)]
noncomputable def Ki_IsFormula := endK C [(ty49, Mode.ro), (ty43, Mode.ro)] [(ty4, 0)] [RV.tmp 4]
noncomputable def Ji_IsFormula_23 (x0 : List Rel) (x1 : List Nod) (x5 : List Int) (x24 : List Nod) (x25 : Int) (x26 : Int) : Option ((Bool × PUnit) × PUnit) := joinAt Ei_IsFormula [1, 1, 1, 0, 1, 0, 0, 1, 1, 1] (Tryz.f157.body.getD .skip) Ki_IsFormula [V.d none 0 ty49 x0, V.d none 0 ty43 x1, V.dead, V.dead, V.dead, V.d none (ty3.depth + 1) (Ty.slice 3 ty3) x5, V.dead,
 V.dead, V.dead, V.dead, V.dead, V.dead, V.dead, V.dead, V.dead, V.dead, V.dead, V.dead, V.dead, V.dead, V.dead, V.dead,
 V.dead, V.dead, V.d none 0 ty43 x24, V.d none 0 (Ty.int IntKind.i64) x25, V.d none 0 (Ty.int IntKind.i64) x26, V.dead,
 V.dead, V.dead, V.dead, V.dead, V.dead, V.dead, V.dead, V.dead, V.dead, V.dead, V.dead, V.dead, V.dead, V.dead, V.dead,
 V.dead, V.dead, V.dead, V.dead, V.dead, V.dead, V.dead, V.dead, V.dead, V.dead, V.dead, V.dead, V.dead, V.dead, V.dead,
 V.dead, V.dead, V.dead, V.dead, V.dead, V.dead, V.dead, V.dead, V.dead, V.dead, V.dead, V.dead, V.dead, V.dead, V.dead,
 V.dead, V.dead, V.dead, V.dead, V.dead, V.dead, V.dead, V.dead, V.dead, V.dead, V.dead, V.dead, V.dead, V.dead, V.dead,
 V.dead, V.dead, V.dead, V.dead, V.dead, V.dead, V.dead, V.dead, V.dead, V.dead, V.dead, V.dead, V.dead, V.dead, V.dead,
 V.dead, V.dead, V.dead, V.dead, V.dead, V.dead, V.dead, V.dead, V.dead, V.dead, V.dead, V.dead, V.dead, V.dead, V.dead,
 V.dead, V.dead, V.dead, V.dead]
noncomputable def Li_IsFormula_5 (x0 : List Rel) (x1 : List Nod) (x5 : List Int) (x24 : List Nod) (x25 : Int) (x26 : Int) : Option ((Bool × PUnit) × PUnit) := loopAt Ei_IsFormula [1, 1, 1, 0, 1, 0] (Tryz.f157.body.getD .skip) Ki_IsFormula [V.d none 0 ty49 x0, V.d none 0 ty43 x1, V.dead, V.dead, V.dead, V.d none (ty3.depth + 1) (Ty.slice 3 ty3) x5, V.dead,
 V.dead, V.dead, V.dead, V.dead, V.dead, V.dead, V.dead, V.dead, V.dead, V.dead, V.dead, V.dead, V.dead, V.dead, V.dead,
 V.dead, V.dead, V.d none 0 ty43 x24, V.d none 0 (Ty.int IntKind.i64) x25, V.d none 0 (Ty.int IntKind.i64) x26, V.dead,
 V.dead, V.dead, V.dead, V.dead, V.dead, V.dead, V.dead, V.dead, V.dead, V.dead, V.dead, V.dead, V.dead, V.dead, V.dead,
 V.dead, V.dead, V.dead, V.dead, V.dead, V.dead, V.dead, V.dead, V.dead, V.dead, V.dead, V.dead, V.dead, V.dead, V.dead,
 V.dead, V.dead, V.dead, V.dead, V.dead, V.dead, V.dead, V.dead, V.dead, V.dead, V.dead, V.dead, V.dead, V.dead, V.dead,
 V.dead, V.dead, V.dead, V.dead, V.dead, V.dead, V.dead, V.dead, V.dead, V.dead, V.dead, V.dead, V.dead, V.dead, V.dead,
 V.dead, V.dead, V.dead, V.dead, V.dead, V.dead, V.dead, V.dead, V.dead, V.dead, V.dead, V.dead, V.dead, V.dead, V.dead,
 V.dead, V.dead, V.dead, V.dead, V.dead, V.dead, V.dead, V.dead, V.dead, V.dead, V.dead, V.dead, V.dead, V.dead, V.dead,
 V.dead, V.dead, V.dead, V.dead]
noncomputable def Si_IsFormula (a0 : List Rel) (a1 : List Nod) : Option ((Bool × PUnit) × PUnit) := Fi_IsFormula.sem (a0, a1, ())
def ji_IsFormula : List (Nat × List Nat) := [(1000005, [1, 1, 1, 0, 1, 0]), (2000023, [1, 1, 1, 0, 1, 0, 0, 1, 1, 1])]
theorem ji_IsFormula_ok : okB ji_IsFormula (Tryz.f157.body.getD .skip) [] = true := by kernel_rfl
theorem Ji_IsFormula_23_eq (x0 : List Rel) (x1 : List Nod) (x5 : List Int) (x24 : List Nod) (x25 : Int) (x26 : Int) : Ji_IsFormula_23 x0 x1 x5 x24 x25 x26 =
  Li_IsFormula_5 x0 x1 x5 x24 x25 (IntKind.i64.wrap (x26 + 1)) := (join_eq ji_IsFormula_ok [1, 1, 1, 0, 1, 0, 0, 1, 1, 1] _).trans (by kernel_rfl)
theorem Li_IsFormula_5_eq (x0 : List Rel) (x1 : List Nod) (x5 : List Int) (x24 : List Nod) (x25 : Int) (x26 : Int) : Li_IsFormula_5 x0 x1 x5 x24 x25 x26 =
  bif decide (x26 < x25) then
 (getI x24 x26).bind fun y =>
  (Si_fieldsFit x0 y).bind fun y_1 =>
   bif !y_1.fst.fst then some ((false, ()), ())
   else
    (Si_partsIn y.fst).bind fun y_2 =>
     bif y_2.fst.fst == 0 then
      bif y.snd.snd.snd.snd.snd.snd.fst != 0 then some ((false, ()), ())
      else
       bif y.snd.snd.snd.snd.snd.snd.snd != 0 then some ((false, ()), ())
       else
        (getI x5 x26).bind fun y =>
         (getI x5 x26).bind fun y =>
          (getI x5 x26).bind fun y => (some (x5.set x26.toNat x26)).bind fun y => Ji_IsFormula_23 x0 x1 y x24 x25 x26
     else
      bif y_2.fst.fst == 1 then
       bif x26 == 0 then some ((false, ()), ())
       else
        bif y.snd.snd.snd.snd.snd.snd.fst != IntKind.i64.wrap (x26 - 1) then some ((false, ()), ())
        else
         bif y.snd.snd.snd.snd.snd.snd.snd != 0 then some ((false, ()), ())
         else
          (getI x5 (IntKind.i64.wrap (x26 - 1))).bind fun y =>
           (getI x5 (IntKind.i64.wrap (x26 - 1))).bind fun y =>
            (getI x5 x26).bind fun y_3 =>
             (getI x5 x26).bind fun y_4 =>
              (getI x5 x26).bind fun y_5 =>
               (some (x5.set x26.toNat y)).bind fun y => Ji_IsFormula_23 x0 x1 y x24 x25 x26
      else
       bif y_2.fst.fst == 2 then
        bif x26 == 0 then some ((false, ()), ())
        else
         bif y.snd.snd.snd.snd.snd.snd.snd != IntKind.i64.wrap (x26 - 1) then some ((false, ()), ())
         else
          (getI x5 (IntKind.i64.wrap (x26 - 1))).bind fun y_3 =>
           (getI x5 (IntKind.i64.wrap (x26 - 1))).bind fun y_4 =>
            bif y_4 == 0 then some ((false, ()), ())
            else
             (getI x5 (IntKind.i64.wrap (x26 - 1))).bind fun y_5 =>
              (getI x5 (IntKind.i64.wrap (x26 - 1))).bind fun y_6 =>
               bif y.snd.snd.snd.snd.snd.snd.fst != IntKind.i64.wrap (y_6 - 1) then some ((false, ()), ())
               else
                (getI x5 y.snd.snd.snd.snd.snd.snd.fst).bind fun y_7 =>
                 (getI x5 y.snd.snd.snd.snd.snd.snd.fst).bind fun y =>
                  (getI x5 x26).bind fun y_8 =>
                   (getI x5 x26).bind fun y_9 =>
                    (getI x5 x26).bind fun y_10 =>
                     (some (x5.set x26.toNat y)).bind fun y => Ji_IsFormula_23 x0 x1 y x24 x25 x26
       else some ((false, ()), ())
else
 (getI x5 (IntKind.i64.wrap ((↑x1.length : Int) - 1))).bind fun y =>
  (getI x5 (IntKind.i64.wrap ((↑x1.length : Int) - 1))).bind fun y => some ((y == 0, ()), ()) := (turn_eq ji_IsFormula_ok [1, 1, 1, 0, 1, 0] (by kernel_rfl) _).trans (by kernel_rfl)
theorem Si_IsFormula_eq (a0 : List Rel) (a1 : List Nod) : Si_IsFormula a0 a1 =
  (Si_IsDatabase a0).bind fun y =>
 bif !y.fst.fst then some ((false, ()), ())
 else
  bif decide ((↑a1.length : Int) < 1) then some ((false, ()), ())
  else
   bif decide ((↑a1.length : Int) > 12) then some ((false, ()), ())
   else
    bif
      decide (0 ≤ (↑a1.length : Int)) && decide ((↑a1.length : Int) ≤ (↑a1.length : Int)) &&
        decide ((↑a1.length : Int) * (↑8 : Int) ≤ 140737488355328) &&
       decide ((↑a1.length : Int) ≤ 9223372036854775807) then
     Li_IsFormula_5 a0 a1 (List.replicate a1.length 0) a1 (↑a1.length : Int) 0
    else none := (Eq.trans (by kernel_rfl : Si_IsFormula a0 a1 = denK Ei_IsFormula (Tryz.f157.body.getD .skip) Ki_IsFormula (slots0 122 [(ty49, Mode.ro), (ty43, Mode.ro)] (a0, a1, ()))) (all_eq ji_IsFormula_ok _)).trans (by kernel_rfl)
noncomputable def Ei_IsPositive : Env := mkEnv C tab_i_IsFormula [0, 1, 2, 3, 5, 6, 11, 15, 17, 21] 26
 (fun k => bif k == 3 then some 18 else bif k == 5 then some 14354 else bif k == 1000004 then some 14338 else none)
 (Hints.mk (fun x x_1 => none) (fun s => Nat.testBit 64 s) fun r => bif r == 6 then [] else [])
 [(ty49, Mode.ro), (ty43, Mode.ro)]
noncomputable def Ki_IsPositive := endK C [(ty49, Mode.ro), (ty43, Mode.ro)] [(ty4, 0)] [RV.tmp 4]
noncomputable def Li_IsPositive_4 (x1 : List Nod) (x11 : List Nod) (x12 : Int) (x13 : Int) : Option ((Bool × PUnit) × PUnit) := loopAt Ei_IsPositive [1, 1, 0, 1, 0] (Tryz.f115.body.getD .skip) Ki_IsPositive [V.dead, V.d none 0 ty43 x1, V.dead, V.dead, V.dead, V.dead, V.dead, V.dead, V.dead, V.dead, V.dead,
 V.d none 0 ty43 x11, V.d none 0 (Ty.int IntKind.i64) x12, V.d none 0 (Ty.int IntKind.i64) x13, V.dead, V.dead, V.dead,
 V.dead, V.dead, V.dead, V.dead, V.dead, V.dead, V.dead, V.dead, V.dead]
noncomputable def Si_IsPositive (a0 : List Rel) (a1 : List Nod) : Option ((Bool × PUnit) × PUnit) := Fi_IsPositive.sem (a0, a1, ())
def ji_IsPositive : List (Nat × List Nat) := [(1000004, [1, 1, 0, 1, 0])]
theorem ji_IsPositive_ok : okB ji_IsPositive (Tryz.f115.body.getD .skip) [] = true := by kernel_rfl
theorem Li_IsPositive_4_eq (x1 : List Nod) (x11 : List Nod) (x12 : Int) (x13 : Int) : Li_IsPositive_4 x1 x11 x12 x13 =
  bif decide (x13 < x12) then
 (getI x11 x13).bind fun y =>
  bif y.fst == 2 then some ((false, ()), ())
  else bif y.fst == 6 then some ((false, ()), ()) else Li_IsPositive_4 x1 x11 x12 (IntKind.i64.wrap (x13 + 1))
else some ((true, ()), ()) := (turn_eq ji_IsPositive_ok [1, 1, 0, 1, 0] (by kernel_rfl) _).trans (by kernel_rfl)
theorem Si_IsPositive_eq (a0 : List Rel) (a1 : List Nod) : Si_IsPositive a0 a1 =
  (Si_IsFormula a0 a1).bind fun y =>
 bif !y.fst.fst then some ((false, ()), ()) else Li_IsPositive_4 a1 a1 (↑a1.length : Int) 0 := (Eq.trans (by kernel_rfl : Si_IsPositive a0 a1 = denK Ei_IsPositive (Tryz.f115.body.getD .skip) Ki_IsPositive (slots0 26 [(ty49, Mode.ro), (ty43, Mode.ro)] (a0, a1, ()))) (all_eq ji_IsPositive_ok _)).trans (by kernel_rfl)
noncomputable def Ei_isRowOf : Env := mkEnv C tab_i_IsPositive [0, 1, 2, 3, 4, 5, 21, 23, 24] 29 (fun x => none)
 (Hints.mk (fun x x_1 => none) (fun s => Nat.testBit 0 s) fun x => []) [(ty49, Mode.ro), (ty3, Mode.ro), (ty3, Mode.ro)]
noncomputable def Ki_isRowOf := endK C [(ty49, Mode.ro), (ty3, Mode.ro), (ty3, Mode.ro)] [(ty4, 0)] [RV.tmp 6]
noncomputable def Si_isRowOf (a0 : List Rel) (a1 : Int) (a2 : Int) : Option ((Bool × PUnit) × PUnit) := Fi_isRowOf.sem (a0, a1, a2, ())
theorem Si_isRowOf_eq (a0 : List Rel) (a1 : Int) (a2 : Int) : Si_isRowOf a0 a1 a2 =
  bif decide (a1 ≥ 0) then
 bif decide (a1 < (↑a0.length : Int)) then
  bif decide (a2 ≥ 0) then (getI a0 a1).bind fun y => some ((decide (a2 < (↑(List.length y.snd.snd) : Int)), ()), ())
  else some ((false, ()), ())
 else some ((false, ()), ())
else some ((false, ()), ()) := by kernel_rfl
noncomputable def Ei_IsView : Env := mkEnv C tab_i_isRowOf [0, 1, 2, 3, 5, 6, 7, 8, 10, 15, 20, 21, 25, 27, 32, 33, 38, 43, 44, 48, 55, 56, 58, 59] 66
 (fun k =>
  bif k == 1 then some 25
  else
   bif k == 3 then some 25
   else
    bif k == 5 then some 14680089
    else
     bif k == 6 then some 14680153
     else
      bif k == 8 then some 14680153
      else
       bif k == 11 then some 123145316991321
       else bif k == 1000004 then some 14680073 else bif k == 1000009 then some 123145316991049 else none)
 (Hints.mk (fun x x_1 => none) (fun s => Nat.testBit 72 s) fun r =>
  bif r == 3 then [11, 16, 21, 25, 26] else bif r == 6 then [8, 28, 39, 44, 48, 49, 50, 55, 56, 58, 59] else [])
 [(ty49, Mode.ro), (ty46, Mode.ro)]
noncomputable def Ki_IsView := endK C [(ty49, Mode.ro), (ty46, Mode.ro)] [(ty4, 0)] [RV.tmp 4]
noncomputable def Li_IsView_9 (x0 : List Rel) (x3 : Viw) (x6 : Cel × List (List Int)) (x21 : List Sup) (x22 : Int) (x23 : Int) (x44 : List (List Int)) (x45 : Int) (x46 : Int) : Option ((Bool × PUnit) × PUnit) := loopAt Ei_IsView [1, 1, 0, 1, 0, 0, 1, 1, 0, 0, 1, 1, 1, 0] (Tryz.f62.body.getD .skip) Ki_IsView [V.d none 0 ty49 x0, V.dead, V.dead, V.box none 0 ty46 x3, V.dead, V.dead, V.box none 0 ty122 x6, V.dead, V.dead,
 V.dead, V.dead, V.dead, V.dead, V.dead, V.dead, V.dead, V.dead, V.dead, V.dead, V.dead, V.dead,
 V.d none 0 (Ty.slice 122 ty122) x21, V.d none 0 (Ty.int IntKind.i64) x22, V.d none 0 (Ty.int IntKind.i64) x23, V.dead,
 V.dead, V.dead, V.dead, V.dead, V.dead, V.dead, V.dead, V.dead, V.dead, V.dead, V.dead, V.dead, V.dead, V.dead, V.dead,
 V.dead, V.dead, V.dead, V.dead, V.d none 0 (Ty.slice 59 ty59) x44, V.d none 0 (Ty.int IntKind.i64) x45,
 V.d none 0 (Ty.int IntKind.i64) x46, V.dead, V.dead, V.dead, V.dead, V.dead, V.dead, V.dead, V.dead, V.dead, V.dead,
 V.dead, V.dead, V.dead, V.dead, V.dead, V.dead, V.dead, V.dead, V.dead]
noncomputable def Li_IsView_4 (x0 : List Rel) (x3 : Viw) (x21 : List Sup) (x22 : Int) (x23 : Int) : Option ((Bool × PUnit) × PUnit) := loopAt Ei_IsView [1, 1, 0, 1, 0] (Tryz.f62.body.getD .skip) Ki_IsView [V.d none 0 ty49 x0, V.dead, V.dead, V.box none 0 ty46 x3, V.dead, V.dead, V.dead, V.dead, V.dead, V.dead, V.dead,
 V.dead, V.dead, V.dead, V.dead, V.dead, V.dead, V.dead, V.dead, V.dead, V.dead, V.d none 0 (Ty.slice 122 ty122) x21,
 V.d none 0 (Ty.int IntKind.i64) x22, V.d none 0 (Ty.int IntKind.i64) x23, V.dead, V.dead, V.dead, V.dead, V.dead,
 V.dead, V.dead, V.dead, V.dead, V.dead, V.dead, V.dead, V.dead, V.dead, V.dead, V.dead, V.dead, V.dead, V.dead, V.dead,
 V.dead, V.dead, V.dead, V.dead, V.dead, V.dead, V.dead, V.dead, V.dead, V.dead, V.dead, V.dead, V.dead, V.dead, V.dead,
 V.dead, V.dead, V.dead, V.dead, V.dead, V.dead, V.dead]
noncomputable def Si_IsView (a0 : List Rel) (a1 : Viw) : Option ((Bool × PUnit) × PUnit) := Fi_IsView.sem (a0, a1, ())
def ji_IsView : List (Nat × List Nat) := [(1000004, [1, 1, 0, 1, 0]), (1000009, [1, 1, 0, 1, 0, 0, 1, 1, 0, 0, 1, 1, 1, 0])]
theorem ji_IsView_ok : okB ji_IsView (Tryz.f62.body.getD .skip) [] = true := by kernel_rfl
theorem Li_IsView_9_eq (x0 : List Rel) (x3 : Viw) (x6 : Cel × List (List Int)) (x21 : List Sup) (x22 : Int) (x23 : Int) (x44 : List (List Int)) (x45 : Int) (x46 : Int) : Li_IsView_9 x0 x3 x6 x21 x22 x23 x44 x45 x46 =
  bif decide (x46 < x45) then
 (getI x44 x46).bind fun y =>
  bif (↑y.length : Int) != 2 then some ((false, ()), ())
  else
   (getI y 0).bind fun y_1 =>
    (getI y 1).bind fun y =>
     (Si_isRowOf x0 y_1 y).bind fun y =>
      bif !y.fst.fst then some ((false, ()), ())
      else Li_IsView_9 x0 x3 x6 x21 x22 x23 x44 x45 (IntKind.i64.wrap (x46 + 1))
else Li_IsView_4 x0 x3 x21 x22 (IntKind.i64.wrap (x23 + 1)) := (turn_eq ji_IsView_ok [1, 1, 0, 1, 0, 0, 1, 1, 0, 0, 1, 1, 1, 0] (by kernel_rfl) _).trans (by kernel_rfl)
theorem Li_IsView_4_eq (x0 : List Rel) (x3 : Viw) (x21 : List Sup) (x22 : Int) (x23 : Int) : Li_IsView_4 x0 x3 x21 x22 x23 =
  bif decide (x23 < x22) then
 (getI x21 x23).bind fun y =>
  (Si_IsCell y.fst).bind fun y_1 =>
   bif !y_1.fst.fst then some ((false, ()), ())
   else
    bif y.fst.fst != 4 then some ((false, ()), ())
    else
     bif decide ((↑(List.length y.snd) : Int) > 12) then some ((false, ()), ())
     else Li_IsView_9 x0 x3 y x21 x22 x23 y.snd (↑(List.length y.snd) : Int) 0
else some ((true, ()), ()) := (turn_eq ji_IsView_ok [1, 1, 0, 1, 0] (by kernel_rfl) _).trans (by kernel_rfl)
theorem Si_IsView_eq (a0 : List Rel) (a1 : Viw) : Si_IsView a0 a1 =
  (Si_IsPositive a0 a1.fst).bind fun y =>
 bif !y.fst.fst then some ((false, ()), ())
 else
  bif decide ((↑(List.length a1.snd) : Int) > 24) then some ((false, ()), ())
  else Li_IsView_4 a0 a1 a1.snd (↑(List.length a1.snd) : Int) 0 := (Eq.trans (by kernel_rfl : Si_IsView a0 a1 = denK Ei_IsView (Tryz.f62.body.getD .skip) Ki_IsView (slots0 66 [(ty49, Mode.ro), (ty46, Mode.ro)] (a0, a1, ()))) (all_eq ji_IsView_ok _)).trans (by kernel_rfl)
noncomputable def Ei_copyNumbers : Env := mkEnv C tab_i_IsView [0, 1] 6 (fun x => none) (Hints.mk (fun x x_1 => none) (fun s => Nat.testBit 0 s) fun x => [])
 [(ty59, Mode.ro)]
noncomputable def Ki_copyNumbers := endK C [(ty59, Mode.ro)] [(ty59, 1)] [RV.tmp 2]
noncomputable def Si_copyNumbers (a0 : List Int) : Option ((List Int × PUnit) × PUnit) := Fi_copyNumbers.sem (a0, ())
theorem Si_copyNumbers_eq (a0 : List Int) : Si_copyNumbers a0 =
  bif decide ((0 + a0.length) * 8 ≤ 140737488355328) then some ((a0, ()), ()) else none := by kernel_rfl
noncomputable def Ei_copyAtom : Env := mkEnv C tab_i_copyNumbers [0, 1, 2, 3, 6, 8] 11 (fun k => bif k == 1 then some 6 else none)
 (Hints.mk (fun x x_1 => none) (fun s => Nat.testBit 6 s) fun r => bif r == 1 then [4] else bif r == 2 then [] else [])
 [(ty85, Mode.ro)]
noncomputable def Ki_copyAtom := endK C [(ty85, Mode.ro)] [(ty85, 1)] [RV.cell 2 85]
noncomputable def Si_copyAtom (a0 : Atm) : Option ((Atm × PUnit) × PUnit) := Fi_copyAtom.sem (a0, ())
theorem Si_copyAtom_eq (a0 : Atm) : Si_copyAtom a0 =
  (Si_copyNumbers a0.fst).bind fun y => some (((y.fst.fst, a0.snd.fst, a0.snd.snd), ()), ()) := by kernel_rfl
noncomputable def Ei_copyNode : Env := mkEnv C tab_i_copyAtom [0, 1, 2, 3, 7] 12
 (fun k => bif k == 1 then some 6 else bif k == 2 then some 6 else bif k == 3 then some 6 else none)
 (Hints.mk (fun x x_1 => none)
  (fun s =>
   Nat.testBit
    2460463844322234353863117626553505029281427791473667431532236058320117601229345897550720135677186919164859298508103609817025768361796473647170164964130696662469918700711690034826046640222721333845249456479513760832868956631387350026826181514417380753586593317621325883648986976903453010607425832010693495817247405346961838707873626211473240804705489553807680955767302200644818603966976727605861080964975819526968196507881457370264088817727469508542425184943557287898973377023442103123940865561494909647553616928361394206167723624368697131045480391593365244411023691024161104020620100511603178699291856002267490948441430027366827815085558127519667752202708470368490193340084321441258823163004742496016860894369684197220641160835984413324494657444244177027287367815340720418325307341282261873994004341001351002749447997532011655158601446506949781224500270343778349798159822583024799547744357038036459978758
    s)
  fun r => bif r == 1 then [4, 8, 11] else bif r == 2 then [] else [])
 [(ty173, Mode.ro)]
noncomputable def Ki_copyNode := endK C [(ty173, Mode.ro)] [(ty173, 1)] [RV.cell 2 173]
noncomputable def Si_copyNode (a0 : Int × Atm × ByteArray × ByteArray × List Int × Int × Int × Int) : Option ((Nod × PUnit) × PUnit) := Fi_copyNode.sem (a0, ())
theorem Si_copyNode_eq (a0 : Int × Atm × ByteArray × ByteArray × List Int × Int × Int × Int) : Si_copyNode a0 =
  (Si_copyAtom a0.snd.fst).bind fun y =>
 (Si_copyNumbers a0.snd.snd.snd.snd.fst).bind fun y_1 =>
  some (((a0.fst, y.fst.fst, a0.snd.snd.fst, a0.snd.snd.snd.fst, y_1.fst.fst, a0.snd.snd.snd.snd.snd), ()), ()) := by kernel_rfl
noncomputable def Ei_copyNodes : Env := mkEnv C tab_i_copyNode [0, 1, 3, 4, 5, 9, 13] 22
 (fun k =>
  bif k == 1 then some 13
  else
   bif k == 2 then some 13
   else bif k == 4 then some 3597 else bif k == 5 then some 3629 else bif k == 1000003 then some 3593 else none)
 (Hints.mk (fun x x_1 => none) (fun s => Nat.testBit 32 s) fun r => bif r == 5 then [16] else []) [(ty43, Mode.ro)]
noncomputable def Ki_copyNodes := endK C [(ty43, Mode.ro)] [(ty43, 2)] [RV.tmp 2]
noncomputable def Li_copyNodes_3 (x0 : List Nod) (x3 : List Nod) (x9 : List Nod) (x10 : Int) (x11 : Int) : Option ((List Nod × PUnit) × PUnit) := loopAt Ei_copyNodes [1, 1, 0, 1, 0] (Tryz.f64.body.getD .skip) Ki_copyNodes [V.d none 0 ty43 x0, V.dead, V.dead, V.d none (ty173.depth + 1) (Ty.slice 173 ty173) x3, V.dead, V.dead, V.dead, V.dead,
 V.dead, V.d none 0 ty43 x9, V.d none 0 (Ty.int IntKind.i64) x10, V.d none 0 (Ty.int IntKind.i64) x11, V.dead, V.dead,
 V.dead, V.dead, V.dead, V.dead, V.dead, V.dead, V.dead, V.dead]
noncomputable def Si_copyNodes (a0 : List Nod) : Option ((List Nod × PUnit) × PUnit) := Fi_copyNodes.sem (a0, ())
def ji_copyNodes : List (Nat × List Nat) := [(1000003, [1, 1, 0, 1, 0])]
theorem ji_copyNodes_ok : okB ji_copyNodes (Tryz.f64.body.getD .skip) [] = true := by kernel_rfl
theorem Li_copyNodes_3_eq (x0 : List Nod) (x3 : List Nod) (x9 : List Nod) (x10 : Int) (x11 : Int) : Li_copyNodes_3 x0 x3 x9 x10 x11 =
  bif decide (x11 < x10) then
 (getI x9 x11).bind fun y =>
  (Si_copyNode y).bind fun y =>
   bif decide ((x3.length + 1) * 128 ≤ 140737488355328) then
    Li_copyNodes_3 x0 (x3 ++ [y.fst.fst]) x9 x10 (IntKind.i64.wrap (x11 + 1))
   else none
else some ((x3, ()), ()) := (turn_eq ji_copyNodes_ok [1, 1, 0, 1, 0] (by kernel_rfl) _).trans (by kernel_rfl)
theorem Si_copyNodes_eq (a0 : List Nod) : Si_copyNodes a0 =
  bif
  decide (0 ≤ 0) && decide (0 ≤ (↑a0.length : Int)) && decide ((↑a0.length : Int) * (↑128 : Int) ≤ 140737488355328) &&
   decide ((↑a0.length : Int) ≤ 9223372036854775807) then
 Li_copyNodes_3 a0 (List.replicate (Int.toNat 0) (0, ([], 0, false), ByteArray.empty, ByteArray.empty, [], 0, 0, 0)) a0
  (↑a0.length : Int) 0
else none := (Eq.trans (by kernel_rfl : Si_copyNodes a0 = denK Ei_copyNodes (Tryz.f64.body.getD .skip) Ki_copyNodes (slots0 22 [(ty43, Mode.ro)] (a0, ()))) (all_eq ji_copyNodes_ok _)).trans (by kernel_rfl)
noncomputable def Ei_Support_hasPair : Env := mkEnv C tab_i_copyNodes [0, 1, 2, 3, 4, 5, 7, 8, 9, 10, 14, 16, 17, 22, 23] 29
 (fun k => bif k == 1 then some 78 else bif k == 1000002 then some 7182 else none)
 (Hints.mk (fun x x_1 => none) (fun s => Nat.testBit 8 s) fun r =>
  bif r == 3 then [8, 10, 14, 15, 16, 17, 22, 23] else [])
 [(ty122, Mode.ro), (ty3, Mode.ro), (ty3, Mode.ro)]
noncomputable def Ki_Support_hasPair := endK C [(ty122, Mode.ro), (ty3, Mode.ro), (ty3, Mode.ro)] [(ty4, 0)] [RV.tmp 6]
noncomputable def Li_Support_hasPair_2 (x1 : Int) (x2 : Int) (x3 : Cel × List (List Int)) (x10 : List (List Int)) (x11 : Int) (x12 : Int) : Option ((Bool × PUnit) × PUnit) := loopAt Ei_Support_hasPair [1, 0, 1, 0] (Tryz.f65.body.getD .skip) Ki_Support_hasPair [V.dead, V.d none 0 ty3 x1, V.d none 0 ty3 x2, V.box none 0 ty122 x3, V.dead, V.dead, V.dead, V.dead, V.dead, V.dead,
 V.d none 0 (Ty.slice 59 ty59) x10, V.d none 0 (Ty.int IntKind.i64) x11, V.d none 0 (Ty.int IntKind.i64) x12, V.dead,
 V.dead, V.dead, V.dead, V.dead, V.dead, V.dead, V.dead, V.dead, V.dead, V.dead, V.dead, V.dead, V.dead, V.dead, V.dead]
noncomputable def Si_Support_hasPair (a0 : Cel × List (List Int)) (a1 : Int) (a2 : Int) : Option ((Bool × PUnit) × PUnit) := Fi_Support_hasPair.sem (a0, a1, a2, ())
def ji_Support_hasPair : List (Nat × List Nat) := [(1000002, [1, 0, 1, 0])]
theorem ji_Support_hasPair_ok : okB ji_Support_hasPair (Tryz.f65.body.getD .skip) [] = true := by kernel_rfl
theorem Li_Support_hasPair_2_eq (x1 : Int) (x2 : Int) (x3 : Cel × List (List Int)) (x10 : List (List Int)) (x11 : Int) (x12 : Int) : Li_Support_hasPair_2 x1 x2 x3 x10 x11 x12 =
  bif decide (x12 < x11) then
 (getI x10 x12).bind fun y =>
  (getI y 0).bind fun y_1 =>
   bif y_1 == x1 then
    (getI y 1).bind fun y =>
     bif y == x2 then some ((true, ()), ()) else Li_Support_hasPair_2 x1 x2 x3 x10 x11 (IntKind.i64.wrap (x12 + 1))
   else Li_Support_hasPair_2 x1 x2 x3 x10 x11 (IntKind.i64.wrap (x12 + 1))
else some ((false, ()), ()) := (turn_eq ji_Support_hasPair_ok [1, 0, 1, 0] (by kernel_rfl) _).trans (by kernel_rfl)
theorem Si_Support_hasPair_eq (a0 : Cel × List (List Int)) (a1 : Int) (a2 : Int) : Si_Support_hasPair a0 a1 a2 =
  Li_Support_hasPair_2 a1 a2 a0 a0.snd (↑(List.length a0.snd) : Int) 0 := (Eq.trans (by kernel_rfl : Si_Support_hasPair a0 a1 a2 = denK Ei_Support_hasPair (Tryz.f65.body.getD .skip) Ki_Support_hasPair (slots0 29 [(ty122, Mode.ro), (ty3, Mode.ro), (ty3, Mode.ro)] (a0, a1, a2, ()))) (all_eq ji_Support_hasPair_ok _)).trans (by kernel_rfl)
noncomputable def Ei_copyCell : Env := mkEnv C tab_i_Support_hasPair [0, 1, 2, 3, 4, 5, 6, 8, 13, 14, 18, 20] 29
 (fun k =>
  bif k == 1 then some 6
  else
   bif k == 2 then some 14
   else
    bif k == 4 then some 114702
    else bif k == 5 then some 114734 else bif k == 7 then some 12 else bif k == 1000003 then some 114702 else none)
 (Hints.mk (fun x x_1 => none) (fun s => Nat.testBit 46 s) fun r =>
  bif r == 1 then [9, 14, 18, 19]
  else bif r == 2 then [] else bif r == 3 then [21, 28] else bif r == 5 then [22] else [])
 [(ty83, Mode.ro)]
noncomputable def Ki_copyCell := endK C [(ty83, Mode.ro)] [(ty83, 2)] [RV.cell 2 83]
noncomputable def Li_copyCell_3 (x1 : Int × List Atm) (x2 : Int × List Atm) (x3 : Int × List Atm) (x14 : List Atm) (x15 : Int) (x16 : Int) : Option ((Cel × PUnit) × PUnit) := loopAt Ei_copyCell [1, 1, 0, 1, 0] (Tryz.f118.body.getD .skip) Ki_copyCell [V.dead, V.box none 0 ty83 x1, V.box none ty83.depth ty83 x2, V.box none ty83.depth ty83 x3, V.dead, V.dead, V.dead,
 V.dead, V.dead, V.dead, V.dead, V.dead, V.dead, V.dead, V.d none 0 (Ty.slice 85 ty85) x14,
 V.d none 0 (Ty.int IntKind.i64) x15, V.d none 0 (Ty.int IntKind.i64) x16, V.dead, V.dead, V.dead, V.dead, V.dead,
 V.dead, V.dead, V.dead, V.dead, V.dead, V.dead, V.dead]
noncomputable def Si_copyCell (a0 : Int × List Atm) : Option ((Cel × PUnit) × PUnit) := Fi_copyCell.sem (a0, ())
def ji_copyCell : List (Nat × List Nat) := [(1000003, [1, 1, 0, 1, 0])]
theorem ji_copyCell_ok : okB ji_copyCell (Tryz.f118.body.getD .skip) [] = true := by kernel_rfl
theorem Li_copyCell_3_eq (x1 : Int × List Atm) (x2 : Int × List Atm) (x3 : Int × List Atm) (x14 : List Atm) (x15 : Int) (x16 : Int) : Li_copyCell_3 x1 x2 x3 x14 x15 x16 =
  bif decide (x16 < x15) then
 (getI x14 x16).bind fun y =>
  (Si_copyAtom y).bind fun y =>
   bif decide ((List.length x3.snd + 1) * 40 ≤ 140737488355328) then
    Li_copyCell_3 x1 x2 (x3.fst, x3.snd ++ [y.fst.fst]) x14 x15 (IntKind.i64.wrap (x16 + 1))
   else none
else some ((x3, ()), ()) := (turn_eq ji_copyCell_ok [1, 1, 0, 1, 0] (by kernel_rfl) _).trans (by kernel_rfl)
theorem Si_copyCell_eq (a0 : Int × List Atm) : Si_copyCell a0 =
  bif
  decide (0 ≤ 0) && decide (0 ≤ (↑(List.length a0.snd) : Int)) &&
    decide ((↑(List.length a0.snd) : Int) * (↑40 : Int) ≤ 140737488355328) &&
   decide ((↑(List.length a0.snd) : Int) ≤ 9223372036854775807) then
 Li_copyCell_3 a0 (0, []) (a0.fst, List.replicate (Int.toNat 0) ([], 0, false)) a0.snd (↑(List.length a0.snd) : Int) 0
else none := (Eq.trans (by kernel_rfl : Si_copyCell a0 = denK Ei_copyCell (Tryz.f118.body.getD .skip) Ki_copyCell (slots0 29 [(ty83, Mode.ro)] (a0, ()))) (all_eq ji_copyCell_ok _)).trans (by kernel_rfl)
noncomputable def Ei_copyPairs : Env := mkEnv C tab_i_copyCell [0, 1, 3, 4, 5, 6, 7, 9, 13, 15, 19] 29
 (fun k => bif k == 1000003 then some 3593 else bif k == 1000006 then some 233001 else none)
 (Hints.mk (fun x x_1 => none) (fun s => Nat.testBit 0 s) fun x => []) [(ty210, Mode.ro)]
noncomputable def Ki_copyPairs := endK C [(ty210, Mode.ro)] [(ty120, 2)] [RV.tmp 2]
noncomputable def Li_copyPairs_6 (x0 : List (List (List Int))) (x3 : List (List Int)) (x5 : List (List Int)) (x9 : List (List (List Int))) (x10 : Int) (x11 : Int) (x15 : List (List Int)) (x16 : Int) (x17 : Int) : Option ((List (List Int) × PUnit) × PUnit) := loopAt Ei_copyPairs [1, 1, 0, 1, 0, 0, 1, 1, 0, 0, 1, 1, 0] (Tryz.f119.body.getD .skip) Ki_copyPairs [V.d none 0 ty210 x0, V.dead, V.dead, V.d none (ty59.depth + 1) (Ty.slice 59 ty59) x3, V.dead, V.d none 0 ty120 x5,
 V.dead, V.dead, V.dead, V.d none 0 ty210 x9, V.d none 0 (Ty.int IntKind.i64) x10, V.d none 0 (Ty.int IntKind.i64) x11,
 V.dead, V.dead, V.dead, V.d none 0 ty120 x15, V.d none 0 (Ty.int IntKind.i64) x16, V.d none 0 (Ty.int IntKind.i64) x17,
 V.dead, V.dead, V.dead, V.dead, V.dead, V.dead, V.dead, V.dead, V.dead, V.dead, V.dead]
noncomputable def Li_copyPairs_3 (x0 : List (List (List Int))) (x3 : List (List Int)) (x9 : List (List (List Int))) (x10 : Int) (x11 : Int) : Option ((List (List Int) × PUnit) × PUnit) := loopAt Ei_copyPairs [1, 1, 0, 1, 0] (Tryz.f119.body.getD .skip) Ki_copyPairs [V.d none 0 ty210 x0, V.dead, V.dead, V.d none (ty59.depth + 1) (Ty.slice 59 ty59) x3, V.dead, V.dead, V.dead, V.dead,
 V.dead, V.d none 0 ty210 x9, V.d none 0 (Ty.int IntKind.i64) x10, V.d none 0 (Ty.int IntKind.i64) x11, V.dead, V.dead,
 V.dead, V.dead, V.dead, V.dead, V.dead, V.dead, V.dead, V.dead, V.dead, V.dead, V.dead, V.dead, V.dead, V.dead, V.dead]
noncomputable def Si_copyPairs (a0 : List (List (List Int))) : Option ((List (List Int) × PUnit) × PUnit) := Fi_copyPairs.sem (a0, ())
def ji_copyPairs : List (Nat × List Nat) := [(1000003, [1, 1, 0, 1, 0]), (1000006, [1, 1, 0, 1, 0, 0, 1, 1, 0, 0, 1, 1, 0])]
theorem ji_copyPairs_ok : okB ji_copyPairs (Tryz.f119.body.getD .skip) [] = true := by kernel_rfl
theorem Li_copyPairs_6_eq (x0 : List (List (List Int))) (x3 : List (List Int)) (x5 : List (List Int)) (x9 : List (List (List Int))) (x10 : Int) (x11 : Int) (x15 : List (List Int)) (x16 : Int) (x17 : Int) : Li_copyPairs_6 x0 x3 x5 x9 x10 x11 x15 x16 x17 =
  bif decide (x17 < x16) then
 (getI x15 x17).bind fun y =>
  (Si_copyNumbers y).bind fun y =>
   bif decide ((x3.length + 1) * 24 ≤ 140737488355328) then
    Li_copyPairs_6 x0 (x3 ++ [y.fst.fst]) x5 x9 x10 x11 x15 x16 (IntKind.i64.wrap (x17 + 1))
   else none
else Li_copyPairs_3 x0 x3 x9 x10 (IntKind.i64.wrap (x11 + 1)) := (turn_eq ji_copyPairs_ok [1, 1, 0, 1, 0, 0, 1, 1, 0, 0, 1, 1, 0] (by kernel_rfl) _).trans (by kernel_rfl)
theorem Li_copyPairs_3_eq (x0 : List (List (List Int))) (x3 : List (List Int)) (x9 : List (List (List Int))) (x10 : Int) (x11 : Int) : Li_copyPairs_3 x0 x3 x9 x10 x11 =
  bif decide (x11 < x10) then (getI x9 x11).bind fun y => Li_copyPairs_6 x0 x3 y x9 x10 x11 y (↑y.length : Int) 0
else some ((x3, ()), ()) := (turn_eq ji_copyPairs_ok [1, 1, 0, 1, 0] (by kernel_rfl) _).trans (by kernel_rfl)
theorem Si_copyPairs_eq (a0 : List (List (List Int))) : Si_copyPairs a0 =
  Li_copyPairs_3 a0 [] a0 (↑a0.length : Int) 0 := (Eq.trans (by kernel_rfl : Si_copyPairs a0 = denK Ei_copyPairs (Tryz.f119.body.getD .skip) Ki_copyPairs (slots0 29 [(ty210, Mode.ro)] (a0, ()))) (all_eq ji_copyPairs_ok _)).trans (by kernel_rfl)
noncomputable def Ei_copySupport : Env := mkEnv C tab_i_copyPairs [0, 1, 2, 3, 6] 11 (fun k => bif k == 1 then some 6 else none)
 (Hints.mk (fun x x_1 => none) (fun s => Nat.testBit 6 s) fun r =>
  bif r == 1 then [4, 7] else bif r == 2 then [] else [])
 [(ty122, Mode.ro)]
noncomputable def Ki_copySupport := endK C [(ty122, Mode.ro)] [(ty122, 2)] [RV.cell 2 122]
noncomputable def Si_copySupport (a0 : Cel × List (List Int)) : Option ((Sup × PUnit) × PUnit) := Fi_copySupport.sem (a0, ())
theorem Si_copySupport_eq (a0 : Cel × List (List Int)) : Si_copySupport a0 =
  (Si_copyCell a0.fst).bind fun y => (Si_copyPairs [a0.snd]).bind fun y_1 => some (((y.fst.fst, y_1.fst.fst), ()), ()) := by kernel_rfl
noncomputable def Ei_ViewAfterRemove : Env := mkEnv C tab_i_copySupport
 [0, 1, 2, 3, 4, 5, 6, 7, 8, 10, 11, 12, 13, 14, 15, 28, 33, 34, 38, 46, 47, 51, 53, 54, 59, 60, 65, 66, 71] 79
 (fun k =>
  bif k == 2 then some 768
  else
   bif k == 3 then some 812
   else
    bif k == 4 then some 1836
    else
     bif k == 6 then some 120259086124
     else
      bif k == 8 then some 120259090220
      else
       bif k == 9 then some 120259094316
       else
        bif k == 13 then some 985282677614380
        else
         bif k == 15 then some 120259094316
         else
          bif k == 17 then some 1792
          else bif k == 1000005 then some 120259085612 else bif k == 1000010 then some 985282677581100 else none)
 (Hints.mk (fun x x_1 => none) (fun s => Nat.testBit 13600 s) fun r =>
  bif r == 5 then [17, 29, 34, 38, 39]
  else
   bif r == 8 then []
   else
    bif r == 10 then [72, 78]
    else bif r == 12 then [40, 44] else bif r == 13 then [15, 47, 51, 52, 53, 54, 59, 60, 65, 66, 69, 73] else [])
 [(ty49, Mode.ro), (ty46, Mode.ro), (ty3, Mode.ro), (ty3, Mode.ro)]
noncomputable def Ki_ViewAfterRemove := endK C [(ty49, Mode.ro), (ty46, Mode.ro), (ty3, Mode.ro), (ty3, Mode.ro)] [(ty46, 3), (ty4, 0)] [RV.cell 8 46, RV.tmp 9]
noncomputable def Li_ViewAfterRemove_10 (x2 : Int) (x3 : Int) (x5 : Viw) (x8 : Viw) (x10 : Viw) (x13 : Cel × List (List Int)) (x34 : List Sup) (x35 : Int) (x36 : Int) (x48 : Int) (x49 : Int) : Option ((Viw ×
  Bool × PUnit) ×
 PUnit) := loopAt Ei_ViewAfterRemove [1, 1, 1, 0, 1, 0, 0, 1, 1, 0, 0, 1, 1, 1, 0, 1, 0] (Tryz.f20.body.getD .skip) Ki_ViewAfterRemove [V.dead, V.dead, V.d none 0 ty3 x2, V.d none 0 ty3 x3, V.dead, V.box none 0 ty46 x5, V.dead, V.dead,
 V.box none ty46.depth ty46 x8, V.dead, V.box none ty46.depth ty46 x10, V.dead, V.dead,
 V.box none ty122.depth ty122 x13, V.dead, V.dead, V.dead, V.dead, V.dead, V.dead, V.dead, V.dead, V.dead, V.dead,
 V.dead, V.dead, V.dead, V.dead, V.dead, V.dead, V.dead, V.dead, V.dead, V.dead, V.d none 0 (Ty.slice 122 ty122) x34,
 V.d none 0 (Ty.int IntKind.i64) x35, V.d none 0 (Ty.int IntKind.i64) x36, V.dead, V.dead, V.dead, V.dead, V.dead,
 V.dead, V.dead, V.dead, V.dead, V.dead, V.view 13 [St.fld 1 (ty83.sz + 0)] (Ty.slice 59 ty59),
 V.d none 0 (Ty.int IntKind.i64) x48, V.d none 0 (Ty.int IntKind.i64) x49, V.dead, V.dead, V.dead, V.dead, V.dead,
 V.dead, V.dead, V.dead, V.dead, V.dead, V.dead, V.dead, V.dead, V.dead, V.dead, V.dead, V.dead, V.dead, V.dead, V.dead,
 V.dead, V.dead, V.dead, V.dead, V.dead, V.dead, V.dead, V.dead, V.dead]
noncomputable def Li_ViewAfterRemove_5 (x2 : Int) (x3 : Int) (x5 : Viw) (x8 : Viw) (x10 : Viw) (x34 : List Sup) (x35 : Int) (x36 : Int) : Option ((Viw ×
  Bool × PUnit) ×
 PUnit) := loopAt Ei_ViewAfterRemove [1, 1, 1, 0, 1, 0] (Tryz.f20.body.getD .skip) Ki_ViewAfterRemove [V.dead, V.dead, V.d none 0 ty3 x2, V.d none 0 ty3 x3, V.dead, V.box none 0 ty46 x5, V.dead, V.dead,
 V.box none ty46.depth ty46 x8, V.dead, V.box none ty46.depth ty46 x10, V.dead, V.dead, V.dead, V.dead, V.dead, V.dead,
 V.dead, V.dead, V.dead, V.dead, V.dead, V.dead, V.dead, V.dead, V.dead, V.dead, V.dead, V.dead, V.dead, V.dead, V.dead,
 V.dead, V.dead, V.d none 0 (Ty.slice 122 ty122) x34, V.d none 0 (Ty.int IntKind.i64) x35,
 V.d none 0 (Ty.int IntKind.i64) x36, V.dead, V.dead, V.dead, V.dead, V.dead, V.dead, V.dead, V.dead, V.dead, V.dead,
 V.dead, V.dead, V.dead, V.dead, V.dead, V.dead, V.dead, V.dead, V.dead, V.dead, V.dead, V.dead, V.dead, V.dead, V.dead,
 V.dead, V.dead, V.dead, V.dead, V.dead, V.dead, V.dead, V.dead, V.dead, V.dead, V.dead, V.dead, V.dead, V.dead, V.dead,
 V.dead, V.dead]
noncomputable def Si_ViewAfterRemove (a0 : List Rel) (a1 : Viw) (a2 : Int) (a3 : Int) : Option ((Viw ×
  Bool × PUnit) ×
 PUnit) := Fi_ViewAfterRemove.sem (a0, a1, a2, a3, ())
def ji_ViewAfterRemove : List (Nat × List Nat) := [(1000005, [1, 1, 1, 0, 1, 0]), (1000010, [1, 1, 1, 0, 1, 0, 0, 1, 1, 0, 0, 1, 1, 1, 0, 1, 0])]
theorem ji_ViewAfterRemove_ok : okB ji_ViewAfterRemove (Tryz.f20.body.getD .skip) [] = true := by kernel_rfl
theorem Li_ViewAfterRemove_10_eq (x2 : Int) (x3 : Int) (x5 : Viw) (x8 : Viw) (x10 : Viw) (x13 : Cel × List (List Int)) (x34 : List Sup) (x35 : Int) (x36 : Int) (x48 : Int) (x49 : Int) : Li_ViewAfterRemove_10 x2 x3 x5 x8 x10 x13 x34 x35 x36 x48 x49 =
  bif decide (x49 < x48) then
 (getI x13.snd x49).bind fun y =>
  (getI x13.snd x49).bind fun y =>
   (getI x13.snd x49).bind fun y =>
    (getI y 0).bind fun y =>
     (getI x13.snd x49).bind fun y =>
      (getI y 0).bind fun y =>
       bif y == x2 then
        (getI x13.snd x49).bind fun y =>
         (getI y 1).bind fun y =>
          (getI x13.snd x49).bind fun y =>
           (getI y 1).bind fun y =>
            bif decide (y > x3) then
             (getI x13.snd x49).bind fun y =>
              (getI y 1).bind fun y =>
               (getI x13.snd x49).bind fun y =>
                (getI y 1).bind fun y =>
                 (getI x13.snd x49).bind fun y_1 =>
                  (getI y_1 1).bind fun y_2 =>
                   (getI x13.snd x49).bind fun y_3 =>
                    (getI y_3 1).bind fun y_4 =>
                     (getI x13.snd x49).bind fun y_5 =>
                      (getI y_5 1).bind fun y_6 =>
                       (some (y_5.set (Int.toNat 1) (IntKind.i64.wrap (y - 1)))).bind fun y =>
                        (some (List.set x13.snd x49.toNat y)).bind fun y =>
                         Li_ViewAfterRemove_10 x2 x3 x5 x8 x10 (x13.fst, y) x34 x35 x36 x48 (IntKind.i64.wrap (x49 + 1))
            else Li_ViewAfterRemove_10 x2 x3 x5 x8 x10 x13 x34 x35 x36 x48 (IntKind.i64.wrap (x49 + 1))
       else Li_ViewAfterRemove_10 x2 x3 x5 x8 x10 x13 x34 x35 x36 x48 (IntKind.i64.wrap (x49 + 1))
else
 bif decide ((List.length x10.snd + 1) * 56 ≤ 140737488355328) then
  Li_ViewAfterRemove_5 x2 x3 x5 x8 (x10.fst, x10.snd ++ [x13]) x34 x35 (IntKind.i64.wrap (x36 + 1))
 else none := (turn_eq ji_ViewAfterRemove_ok [1, 1, 1, 0, 1, 0, 0, 1, 1, 0, 0, 1, 1, 1, 0, 1, 0] (by kernel_rfl) _).trans (by kernel_rfl)
theorem Li_ViewAfterRemove_5_eq (x2 : Int) (x3 : Int) (x5 : Viw) (x8 : Viw) (x10 : Viw) (x34 : List Sup) (x35 : Int) (x36 : Int) : Li_ViewAfterRemove_5 x2 x3 x5 x8 x10 x34 x35 x36 =
  bif decide (x36 < x35) then
 (getI x34 x36).bind fun y =>
  (Si_Support_hasPair y x2 x3).bind fun y_1 =>
   bif y_1.fst.fst then Li_ViewAfterRemove_5 x2 x3 x5 x8 x10 x34 x35 (IntKind.i64.wrap (x36 + 1))
   else
    (Si_copySupport y).bind fun y =>
     Li_ViewAfterRemove_10 x2 x3 x5 x8 x10 y.fst.fst x34 x35 x36 (↑(List.length y.fst.fst.snd) : Int) 0
else some ((x10, true, ()), ()) := (turn_eq ji_ViewAfterRemove_ok [1, 1, 1, 0, 1, 0] (by kernel_rfl) _).trans (by kernel_rfl)
theorem Si_ViewAfterRemove_eq (a0 : List Rel) (a1 : Viw) (a2 : Int) (a3 : Int) : Si_ViewAfterRemove a0 a1 a2 a3 =
  (Si_IsView a0 a1).bind fun y =>
 bif !y.fst.fst then some ((([], []), false, ()), ())
 else
  (Si_isRowOf a0 a2 a3).bind fun y =>
   bif !y.fst.fst then some ((([], []), false, ()), ())
   else
    (Si_copyNodes a1.fst).bind fun y =>
     Li_ViewAfterRemove_5 a2 a3 a1 ([], []) (y.fst.fst, []) a1.snd (↑(List.length a1.snd) : Int) 0 := (Eq.trans (by kernel_rfl : Si_ViewAfterRemove a0 a1 a2 a3 = denK Ei_ViewAfterRemove (Tryz.f20.body.getD .skip) Ki_ViewAfterRemove (slots0 79 [(ty49, Mode.ro), (ty46, Mode.ro), (ty3, Mode.ro), (ty3, Mode.ro)] (a0, a1, a2, a3, ()))) (all_eq ji_ViewAfterRemove_ok _)).trans (by kernel_rfl)
noncomputable def Ew_eqIntS : Env := mkEnv C tab_i_ViewAfterRemove [0, 1, 2, 3, 5, 17, 19, 21, 23] 26 (fun k => bif k == 1000004 then some 35 else none)
 (Hints.mk (fun x x_1 => none) (fun s => Nat.testBit 0 s) fun x => []) [(ty59, Mode.ro), (ty59, Mode.ro)]
noncomputable def Kw_eqIntS := endK C [(ty59, Mode.ro), (ty59, Mode.ro)] [(ty4, 0)] [RV.tmp 4]
noncomputable def Lw_eqIntS_4 (x0 : List Int) (x1 : List Int) (x5 : Int) : Option ((Bool × PUnit) × PUnit) := loopAt Ew_eqIntS [1, 1, 0, 1, 0] (Tryz.f30.body.getD .skip) Kw_eqIntS [V.d none 0 ty59 x0, V.d none 0 ty59 x1, V.dead, V.dead, V.dead, V.d none 0 (Ty.int IntKind.i64) x5, V.dead, V.dead,
 V.dead, V.dead, V.dead, V.dead, V.dead, V.dead, V.dead, V.dead, V.dead, V.dead, V.dead, V.dead, V.dead, V.dead, V.dead,
 V.dead, V.dead, V.dead]
noncomputable def Sw_eqIntS (a0 : List Int) (a1 : List Int) : Option ((Bool × PUnit) × PUnit) := Fw_eqIntS.sem (a0, a1, ())
def jw_eqIntS : List (Nat × List Nat) := [(1000004, [1, 1, 0, 1, 0])]
theorem jw_eqIntS_ok : okB jw_eqIntS (Tryz.f30.body.getD .skip) [] = true := by kernel_rfl
theorem Lw_eqIntS_4_eq (x0 : List Int) (x1 : List Int) (x5 : Int) : Lw_eqIntS_4 x0 x1 x5 =
  bif decide (x5 < (↑x0.length : Int)) then
 (getI x0 x5).bind fun y =>
  (getI x1 x5).bind fun y_1 =>
   bif y != y_1 then some ((false, ()), ()) else Lw_eqIntS_4 x0 x1 (IntKind.i64.wrap (x5 + 1))
else some ((true, ()), ()) := (turn_eq jw_eqIntS_ok [1, 1, 0, 1, 0] (by kernel_rfl) _).trans (by kernel_rfl)
theorem Sw_eqIntS_eq (a0 : List Int) (a1 : List Int) : Sw_eqIntS a0 a1 =
  bif (↑a0.length : Int) != (↑a1.length : Int) then some ((false, ()), ()) else Lw_eqIntS_4 a0 a1 0 := (Eq.trans (by kernel_rfl : Sw_eqIntS a0 a1 = denK Ew_eqIntS (Tryz.f30.body.getD .skip) Kw_eqIntS (slots0 26 [(ty59, Mode.ro), (ty59, Mode.ro)] (a0, a1, ()))) (all_eq jw_eqIntS_ok _)).trans (by kernel_rfl)
noncomputable def Ew_eqAtom : Env := mkEnv C tab_w_eqIntS [0, 1, 2, 3, 5, 7, 11, 13, 16, 18] 21 (fun x => none)
 (Hints.mk (fun x x_1 => none) (fun s => Nat.testBit 12 s) fun r =>
  bif r == 2 then [6] else bif r == 3 then [8] else [])
 [(ty85, Mode.ro), (ty85, Mode.ro)]
noncomputable def Kw_eqAtom := endK C [(ty85, Mode.ro), (ty85, Mode.ro)] [(ty4, 0)] [RV.tmp 4]
noncomputable def Sw_eqAtom (a0 : Atm) (a1 : Atm) : Option ((Bool × PUnit) × PUnit) := Fw_eqAtom.sem (a0, a1, ())
theorem Sw_eqAtom_eq (a0 : Atm) (a1 : Atm) : Sw_eqAtom a0 a1 =
  (Sw_eqIntS a0.fst a1.fst).bind fun y =>
 bif !y.fst.fst then some ((false, ()), ())
 else
  bif a0.snd.fst != a1.snd.fst then some ((false, ()), ())
  else bif !a0.snd.snd == a1.snd.snd then some ((false, ()), ()) else some ((true, ()), ()) := by kernel_rfl
noncomputable def Ew_eqNode : Env := mkEnv C tab_w_eqAtom [0, 1, 2, 3, 5, 7, 10, 12, 16, 18, 21, 23, 26, 28, 32, 34, 37, 39, 42, 44] 47 (fun x => none)
 (Hints.mk (fun x x_1 => none) (fun s => Nat.testBit 12 s) fun r =>
  bif r == 2 then [11, 27] else bif r == 3 then [13, 29] else [])
 [(ty173, Mode.ro), (ty173, Mode.ro)]
noncomputable def Kw_eqNode := endK C [(ty173, Mode.ro), (ty173, Mode.ro)] [(ty4, 0)] [RV.tmp 4]
noncomputable def Sw_eqNode (a0 : Int × Atm × ByteArray × ByteArray × List Int × Int × Int × Int) (a1 : Int × Atm × ByteArray × ByteArray × List Int × Int × Int × Int) : Option ((Bool × PUnit) × PUnit) := Fw_eqNode.sem (a0, a1, ())
theorem Sw_eqNode_eq (a0 : Int × Atm × ByteArray × ByteArray × List Int × Int × Int × Int) (a1 : Int × Atm × ByteArray × ByteArray × List Int × Int × Int × Int) : Sw_eqNode a0 a1 =
  bif a0.fst != a1.fst then some ((false, ()), ())
else
 (Sw_eqAtom a0.snd.fst a1.snd.fst).bind fun y =>
  bif !y.fst.fst then some ((false, ()), ())
  else
   bif !ByteArray.toList a0.snd.snd.fst == ByteArray.toList a1.snd.snd.fst then some ((false, ()), ())
   else
    bif !ByteArray.toList a0.snd.snd.snd.fst == ByteArray.toList a1.snd.snd.snd.fst then some ((false, ()), ())
    else
     (Sw_eqIntS a0.snd.snd.snd.snd.fst a1.snd.snd.snd.snd.fst).bind fun y =>
      bif !y.fst.fst then some ((false, ()), ())
      else
       bif a0.snd.snd.snd.snd.snd.fst != a1.snd.snd.snd.snd.snd.fst then some ((false, ()), ())
       else
        bif a0.snd.snd.snd.snd.snd.snd.fst != a1.snd.snd.snd.snd.snd.snd.fst then some ((false, ()), ())
        else
         bif a0.snd.snd.snd.snd.snd.snd.snd != a1.snd.snd.snd.snd.snd.snd.snd then some ((false, ()), ())
         else some ((true, ()), ()) := by kernel_rfl
noncomputable def Ew_eqNodeS : Env := mkEnv C tab_w_eqNode [0, 1, 2, 3, 5, 17, 19, 21, 23] 27 (fun k => bif k == 1000004 then some 35 else none)
 (Hints.mk (fun x x_1 => none) (fun s => Nat.testBit 0 s) fun x => []) [(ty43, Mode.ro), (ty43, Mode.ro)]
noncomputable def Kw_eqNodeS := endK C [(ty43, Mode.ro), (ty43, Mode.ro)] [(ty4, 0)] [RV.tmp 4]
noncomputable def Lw_eqNodeS_4 (x0 : List Nod) (x1 : List Nod) (x5 : Int) : Option ((Bool × PUnit) × PUnit) := loopAt Ew_eqNodeS [1, 1, 0, 1, 0] (Tryz.f67.body.getD .skip) Kw_eqNodeS [V.d none 0 ty43 x0, V.d none 0 ty43 x1, V.dead, V.dead, V.dead, V.d none 0 (Ty.int IntKind.i64) x5, V.dead, V.dead,
 V.dead, V.dead, V.dead, V.dead, V.dead, V.dead, V.dead, V.dead, V.dead, V.dead, V.dead, V.dead, V.dead, V.dead, V.dead,
 V.dead, V.dead, V.dead, V.dead]
noncomputable def Sw_eqNodeS (a0 : List Nod) (a1 : List Nod) : Option ((Bool × PUnit) × PUnit) := Fw_eqNodeS.sem (a0, a1, ())
def jw_eqNodeS : List (Nat × List Nat) := [(1000004, [1, 1, 0, 1, 0])]
theorem jw_eqNodeS_ok : okB jw_eqNodeS (Tryz.f67.body.getD .skip) [] = true := by kernel_rfl
theorem Lw_eqNodeS_4_eq (x0 : List Nod) (x1 : List Nod) (x5 : Int) : Lw_eqNodeS_4 x0 x1 x5 =
  bif decide (x5 < (↑x0.length : Int)) then
 (getI x0 x5).bind fun y =>
  (getI x1 x5).bind fun y_1 =>
   (Sw_eqNode y y_1).bind fun y =>
    bif !y.fst.fst then some ((false, ()), ()) else Lw_eqNodeS_4 x0 x1 (IntKind.i64.wrap (x5 + 1))
else some ((true, ()), ()) := (turn_eq jw_eqNodeS_ok [1, 1, 0, 1, 0] (by kernel_rfl) _).trans (by kernel_rfl)
theorem Sw_eqNodeS_eq (a0 : List Nod) (a1 : List Nod) : Sw_eqNodeS a0 a1 =
  bif (↑a0.length : Int) != (↑a1.length : Int) then some ((false, ()), ()) else Lw_eqNodeS_4 a0 a1 0 := (Eq.trans (by kernel_rfl : Sw_eqNodeS a0 a1 = denK Ew_eqNodeS (Tryz.f67.body.getD .skip) Kw_eqNodeS (slots0 27 [(ty43, Mode.ro), (ty43, Mode.ro)] (a0, a1, ()))) (all_eq jw_eqNodeS_ok _)).trans (by kernel_rfl)
noncomputable def Ew_eqAtomS : Env := mkEnv C tab_w_eqNodeS [0, 1, 2, 3, 5, 17, 19, 21, 23] 27 (fun k => bif k == 1000004 then some 35 else none)
 (Hints.mk (fun x x_1 => none) (fun s => Nat.testBit 0 s) fun x => []) [(ty78, Mode.ro), (ty78, Mode.ro)]
noncomputable def Kw_eqAtomS := endK C [(ty78, Mode.ro), (ty78, Mode.ro)] [(ty4, 0)] [RV.tmp 4]
noncomputable def Lw_eqAtomS_4 (x0 : List Atm) (x1 : List Atm) (x5 : Int) : Option ((Bool × PUnit) × PUnit) := loopAt Ew_eqAtomS [1, 1, 0, 1, 0] (Tryz.f145.body.getD .skip) Kw_eqAtomS [V.d none 0 ty78 x0, V.d none 0 ty78 x1, V.dead, V.dead, V.dead, V.d none 0 (Ty.int IntKind.i64) x5, V.dead, V.dead,
 V.dead, V.dead, V.dead, V.dead, V.dead, V.dead, V.dead, V.dead, V.dead, V.dead, V.dead, V.dead, V.dead, V.dead, V.dead,
 V.dead, V.dead, V.dead, V.dead]
noncomputable def Sw_eqAtomS (a0 : List Atm) (a1 : List Atm) : Option ((Bool × PUnit) × PUnit) := Fw_eqAtomS.sem (a0, a1, ())
def jw_eqAtomS : List (Nat × List Nat) := [(1000004, [1, 1, 0, 1, 0])]
theorem jw_eqAtomS_ok : okB jw_eqAtomS (Tryz.f145.body.getD .skip) [] = true := by kernel_rfl
theorem Lw_eqAtomS_4_eq (x0 : List Atm) (x1 : List Atm) (x5 : Int) : Lw_eqAtomS_4 x0 x1 x5 =
  bif decide (x5 < (↑x0.length : Int)) then
 (getI x0 x5).bind fun y =>
  (getI x1 x5).bind fun y_1 =>
   (Sw_eqAtom y y_1).bind fun y =>
    bif !y.fst.fst then some ((false, ()), ()) else Lw_eqAtomS_4 x0 x1 (IntKind.i64.wrap (x5 + 1))
else some ((true, ()), ()) := (turn_eq jw_eqAtomS_ok [1, 1, 0, 1, 0] (by kernel_rfl) _).trans (by kernel_rfl)
theorem Sw_eqAtomS_eq (a0 : List Atm) (a1 : List Atm) : Sw_eqAtomS a0 a1 =
  bif (↑a0.length : Int) != (↑a1.length : Int) then some ((false, ()), ()) else Lw_eqAtomS_4 a0 a1 0 := (Eq.trans (by kernel_rfl : Sw_eqAtomS a0 a1 = denK Ew_eqAtomS (Tryz.f145.body.getD .skip) Kw_eqAtomS (slots0 27 [(ty78, Mode.ro), (ty78, Mode.ro)] (a0, a1, ()))) (all_eq jw_eqAtomS_ok _)).trans (by kernel_rfl)
noncomputable def Ew_eqCell : Env := mkEnv C tab_w_eqAtomS [0, 1, 2, 3, 5, 7, 10, 12] 16 (fun x => none)
 (Hints.mk (fun x x_1 => none) (fun s => Nat.testBit 12 s) fun r =>
  bif r == 2 then [11] else bif r == 3 then [13] else [])
 [(ty83, Mode.ro), (ty83, Mode.ro)]
noncomputable def Kw_eqCell := endK C [(ty83, Mode.ro), (ty83, Mode.ro)] [(ty4, 0)] [RV.tmp 4]
noncomputable def Sw_eqCell (a0 : Int × List Atm) (a1 : Int × List Atm) : Option ((Bool × PUnit) × PUnit) := Fw_eqCell.sem (a0, a1, ())
theorem Sw_eqCell_eq (a0 : Int × List Atm) (a1 : Int × List Atm) : Sw_eqCell a0 a1 =
  bif a0.fst != a1.fst then some ((false, ()), ())
else (Sw_eqAtomS a0.snd a1.snd).bind fun y => bif !y.fst.fst then some ((false, ()), ()) else some ((true, ()), ()) := by kernel_rfl
noncomputable def Ew_eqIntSS : Env := mkEnv C tab_w_eqCell [0, 1, 2, 3, 5, 17, 19, 21, 23] 27 (fun k => bif k == 1000004 then some 35 else none)
 (Hints.mk (fun x x_1 => none) (fun s => Nat.testBit 0 s) fun x => []) [(ty120, Mode.ro), (ty120, Mode.ro)]
noncomputable def Kw_eqIntSS := endK C [(ty120, Mode.ro), (ty120, Mode.ro)] [(ty4, 0)] [RV.tmp 4]
noncomputable def Lw_eqIntSS_4 (x0 : List (List Int)) (x1 : List (List Int)) (x5 : Int) : Option ((Bool × PUnit) × PUnit) := loopAt Ew_eqIntSS [1, 1, 0, 1, 0] (Tryz.f159.body.getD .skip) Kw_eqIntSS [V.d none 0 ty120 x0, V.d none 0 ty120 x1, V.dead, V.dead, V.dead, V.d none 0 (Ty.int IntKind.i64) x5, V.dead, V.dead,
 V.dead, V.dead, V.dead, V.dead, V.dead, V.dead, V.dead, V.dead, V.dead, V.dead, V.dead, V.dead, V.dead, V.dead, V.dead,
 V.dead, V.dead, V.dead, V.dead]
noncomputable def Sw_eqIntSS (a0 : List (List Int)) (a1 : List (List Int)) : Option ((Bool × PUnit) × PUnit) := Fw_eqIntSS.sem (a0, a1, ())
def jw_eqIntSS : List (Nat × List Nat) := [(1000004, [1, 1, 0, 1, 0])]
theorem jw_eqIntSS_ok : okB jw_eqIntSS (Tryz.f159.body.getD .skip) [] = true := by kernel_rfl
theorem Lw_eqIntSS_4_eq (x0 : List (List Int)) (x1 : List (List Int)) (x5 : Int) : Lw_eqIntSS_4 x0 x1 x5 =
  bif decide (x5 < (↑x0.length : Int)) then
 (getI x0 x5).bind fun y =>
  (getI x1 x5).bind fun y_1 =>
   (Sw_eqIntS y y_1).bind fun y =>
    bif !y.fst.fst then some ((false, ()), ()) else Lw_eqIntSS_4 x0 x1 (IntKind.i64.wrap (x5 + 1))
else some ((true, ()), ()) := (turn_eq jw_eqIntSS_ok [1, 1, 0, 1, 0] (by kernel_rfl) _).trans (by kernel_rfl)
theorem Sw_eqIntSS_eq (a0 : List (List Int)) (a1 : List (List Int)) : Sw_eqIntSS a0 a1 =
  bif (↑a0.length : Int) != (↑a1.length : Int) then some ((false, ()), ()) else Lw_eqIntSS_4 a0 a1 0 := (Eq.trans (by kernel_rfl : Sw_eqIntSS a0 a1 = denK Ew_eqIntSS (Tryz.f159.body.getD .skip) Kw_eqIntSS (slots0 27 [(ty120, Mode.ro), (ty120, Mode.ro)] (a0, a1, ()))) (all_eq jw_eqIntSS_ok _)).trans (by kernel_rfl)
noncomputable def Ew_eqSupport : Env := mkEnv C tab_w_eqIntSS [0, 1, 2, 3, 5, 7, 11, 13] 17 (fun x => none)
 (Hints.mk (fun x x_1 => none) (fun s => Nat.testBit 12 s) fun r =>
  bif r == 2 then [6, 12] else bif r == 3 then [8, 14] else [])
 [(ty122, Mode.ro), (ty122, Mode.ro)]
noncomputable def Kw_eqSupport := endK C [(ty122, Mode.ro), (ty122, Mode.ro)] [(ty4, 0)] [RV.tmp 4]
noncomputable def Sw_eqSupport (a0 : Cel × List (List Int)) (a1 : Cel × List (List Int)) : Option ((Bool × PUnit) × PUnit) := Fw_eqSupport.sem (a0, a1, ())
theorem Sw_eqSupport_eq (a0 : Cel × List (List Int)) (a1 : Cel × List (List Int)) : Sw_eqSupport a0 a1 =
  (Sw_eqCell a0.fst a1.fst).bind fun y =>
 bif !y.fst.fst then some ((false, ()), ())
 else (Sw_eqIntSS a0.snd a1.snd).bind fun y => bif !y.fst.fst then some ((false, ()), ()) else some ((true, ()), ()) := by kernel_rfl
noncomputable def Ew_eqSupportS : Env := mkEnv C tab_w_eqSupport [0, 1, 2, 3, 5, 17, 19, 21, 23] 27 (fun k => bif k == 1000004 then some 35 else none)
 (Hints.mk (fun x x_1 => none) (fun s => Nat.testBit 0 s) fun x => []) [(ty44, Mode.ro), (ty44, Mode.ro)]
noncomputable def Kw_eqSupportS := endK C [(ty44, Mode.ro), (ty44, Mode.ro)] [(ty4, 0)] [RV.tmp 4]
noncomputable def Lw_eqSupportS_4 (x0 : List Sup) (x1 : List Sup) (x5 : Int) : Option ((Bool × PUnit) × PUnit) := loopAt Ew_eqSupportS [1, 1, 0, 1, 0] (Tryz.f68.body.getD .skip) Kw_eqSupportS [V.d none 0 ty44 x0, V.d none 0 ty44 x1, V.dead, V.dead, V.dead, V.d none 0 (Ty.int IntKind.i64) x5, V.dead, V.dead,
 V.dead, V.dead, V.dead, V.dead, V.dead, V.dead, V.dead, V.dead, V.dead, V.dead, V.dead, V.dead, V.dead, V.dead, V.dead,
 V.dead, V.dead, V.dead, V.dead]
noncomputable def Sw_eqSupportS (a0 : List Sup) (a1 : List Sup) : Option ((Bool × PUnit) × PUnit) := Fw_eqSupportS.sem (a0, a1, ())
def jw_eqSupportS : List (Nat × List Nat) := [(1000004, [1, 1, 0, 1, 0])]
theorem jw_eqSupportS_ok : okB jw_eqSupportS (Tryz.f68.body.getD .skip) [] = true := by kernel_rfl
theorem Lw_eqSupportS_4_eq (x0 : List Sup) (x1 : List Sup) (x5 : Int) : Lw_eqSupportS_4 x0 x1 x5 =
  bif decide (x5 < (↑x0.length : Int)) then
 (getI x0 x5).bind fun y =>
  (getI x1 x5).bind fun y_1 =>
   (Sw_eqSupport y y_1).bind fun y =>
    bif !y.fst.fst then some ((false, ()), ()) else Lw_eqSupportS_4 x0 x1 (IntKind.i64.wrap (x5 + 1))
else some ((true, ()), ()) := (turn_eq jw_eqSupportS_ok [1, 1, 0, 1, 0] (by kernel_rfl) _).trans (by kernel_rfl)
theorem Sw_eqSupportS_eq (a0 : List Sup) (a1 : List Sup) : Sw_eqSupportS a0 a1 =
  bif (↑a0.length : Int) != (↑a1.length : Int) then some ((false, ()), ()) else Lw_eqSupportS_4 a0 a1 0 := (Eq.trans (by kernel_rfl : Sw_eqSupportS a0 a1 = denK Ew_eqSupportS (Tryz.f68.body.getD .skip) Kw_eqSupportS (slots0 27 [(ty44, Mode.ro), (ty44, Mode.ro)] (a0, a1, ()))) (all_eq jw_eqSupportS_ok _)).trans (by kernel_rfl)
noncomputable def Ew_eqView : Env := mkEnv C tab_w_eqSupportS [0, 1, 2, 3, 5, 7, 11, 13] 17 (fun x => none)
 (Hints.mk (fun x x_1 => none) (fun s => Nat.testBit 12 s) fun r =>
  bif r == 2 then [6, 12] else bif r == 3 then [8, 14] else [])
 [(ty46, Mode.ro), (ty46, Mode.ro)]
noncomputable def Kw_eqView := endK C [(ty46, Mode.ro), (ty46, Mode.ro)] [(ty4, 0)] [RV.tmp 4]
noncomputable def Sw_eqView (a0 : Viw) (a1 : Viw) : Option ((Bool × PUnit) × PUnit) := Fw_eqView.sem (a0, a1, ())
theorem Sw_eqView_eq (a0 : Viw) (a1 : Viw) : Sw_eqView a0 a1 =
  (Sw_eqNodeS a0.fst a1.fst).bind fun y =>
 bif !y.fst.fst then some ((false, ()), ())
 else (Sw_eqSupportS a0.snd a1.snd).bind fun y => bif !y.fst.fst then some ((false, ()), ()) else some ((true, ()), ()) := by kernel_rfl
noncomputable def Ew_eqRow : Env := mkEnv C tab_w_eqView [0, 1, 2, 3, 5, 7, 10, 12] 16 (fun x => none)
 (Hints.mk (fun x x_1 => none) (fun s => Nat.testBit 12 s) fun r =>
  bif r == 2 then [11] else bif r == 3 then [13] else [])
 [(ty184, Mode.ro), (ty184, Mode.ro)]
noncomputable def Kw_eqRow := endK C [(ty184, Mode.ro), (ty184, Mode.ro)] [(ty4, 0)] [RV.tmp 4]
noncomputable def Sw_eqRow (a0 : ByteArray × Int × List Atm) (a1 : ByteArray × Int × List Atm) : Option ((Bool × PUnit) × PUnit) := Fw_eqRow.sem (a0, a1, ())
theorem Sw_eqRow_eq (a0 : ByteArray × Int × List Atm) (a1 : ByteArray × Int × List Atm) : Sw_eqRow a0 a1 =
  bif !ByteArray.toList a0.fst == ByteArray.toList a1.fst then some ((false, ()), ())
else (Sw_eqCell a0.snd a1.snd).bind fun y => bif !y.fst.fst then some ((false, ()), ()) else some ((true, ()), ()) := by kernel_rfl
noncomputable def Ew_eqRowS : Env := mkEnv C tab_w_eqRow [0, 1, 2, 3, 5, 17, 19, 21, 23] 27 (fun k => bif k == 1000004 then some 35 else none)
 (Hints.mk (fun x x_1 => none) (fun s => Nat.testBit 0 s) fun x => []) [(ty115, Mode.ro), (ty115, Mode.ro)]
noncomputable def Kw_eqRowS := endK C [(ty115, Mode.ro), (ty115, Mode.ro)] [(ty4, 0)] [RV.tmp 4]
noncomputable def Lw_eqRowS_4 (x0 : List Rw) (x1 : List Rw) (x5 : Int) : Option ((Bool × PUnit) × PUnit) := loopAt Ew_eqRowS [1, 1, 0, 1, 0] (Tryz.f122.body.getD .skip) Kw_eqRowS [V.d none 0 ty115 x0, V.d none 0 ty115 x1, V.dead, V.dead, V.dead, V.d none 0 (Ty.int IntKind.i64) x5, V.dead, V.dead,
 V.dead, V.dead, V.dead, V.dead, V.dead, V.dead, V.dead, V.dead, V.dead, V.dead, V.dead, V.dead, V.dead, V.dead, V.dead,
 V.dead, V.dead, V.dead, V.dead]
noncomputable def Sw_eqRowS (a0 : List Rw) (a1 : List Rw) : Option ((Bool × PUnit) × PUnit) := Fw_eqRowS.sem (a0, a1, ())
def jw_eqRowS : List (Nat × List Nat) := [(1000004, [1, 1, 0, 1, 0])]
theorem jw_eqRowS_ok : okB jw_eqRowS (Tryz.f122.body.getD .skip) [] = true := by kernel_rfl
theorem Lw_eqRowS_4_eq (x0 : List Rw) (x1 : List Rw) (x5 : Int) : Lw_eqRowS_4 x0 x1 x5 =
  bif decide (x5 < (↑x0.length : Int)) then
 (getI x0 x5).bind fun y =>
  (getI x1 x5).bind fun y_1 =>
   (Sw_eqRow y y_1).bind fun y =>
    bif !y.fst.fst then some ((false, ()), ()) else Lw_eqRowS_4 x0 x1 (IntKind.i64.wrap (x5 + 1))
else some ((true, ()), ()) := (turn_eq jw_eqRowS_ok [1, 1, 0, 1, 0] (by kernel_rfl) _).trans (by kernel_rfl)
theorem Sw_eqRowS_eq (a0 : List Rw) (a1 : List Rw) : Sw_eqRowS a0 a1 =
  bif (↑a0.length : Int) != (↑a1.length : Int) then some ((false, ()), ()) else Lw_eqRowS_4 a0 a1 0 := (Eq.trans (by kernel_rfl : Sw_eqRowS a0 a1 = denK Ew_eqRowS (Tryz.f122.body.getD .skip) Kw_eqRowS (slots0 27 [(ty115, Mode.ro), (ty115, Mode.ro)] (a0, a1, ()))) (all_eq jw_eqRowS_ok _)).trans (by kernel_rfl)
noncomputable def Ew_eqRelation : Env := mkEnv C tab_w_eqRowS [0, 1, 2, 3, 5, 7, 10, 12, 15, 17] 21 (fun x => none)
 (Hints.mk (fun x x_1 => none) (fun s => Nat.testBit 12 s) fun r =>
  bif r == 2 then [16] else bif r == 3 then [18] else [])
 [(ty117, Mode.ro), (ty117, Mode.ro)]
noncomputable def Kw_eqRelation := endK C [(ty117, Mode.ro), (ty117, Mode.ro)] [(ty4, 0)] [RV.tmp 4]
noncomputable def Sw_eqRelation (a0 : ByteArray × Int × List Rw) (a1 : ByteArray × Int × List Rw) : Option ((Bool × PUnit) × PUnit) := Fw_eqRelation.sem (a0, a1, ())
theorem Sw_eqRelation_eq (a0 : ByteArray × Int × List Rw) (a1 : ByteArray × Int × List Rw) : Sw_eqRelation a0 a1 =
  bif !ByteArray.toList a0.fst == ByteArray.toList a1.fst then some ((false, ()), ())
else
 bif a0.snd.fst != a1.snd.fst then some ((false, ()), ())
 else
  (Sw_eqRowS a0.snd.snd a1.snd.snd).bind fun y => bif !y.fst.fst then some ((false, ()), ()) else some ((true, ()), ()) := by kernel_rfl
noncomputable def Ew_eqRelationS : Env := mkEnv C tab_w_eqRelation [0, 1, 2, 3, 5, 17, 19, 21, 23] 27 (fun k => bif k == 1000004 then some 35 else none)
 (Hints.mk (fun x x_1 => none) (fun s => Nat.testBit 0 s) fun x => []) [(ty49, Mode.ro), (ty49, Mode.ro)]
noncomputable def Kw_eqRelationS := endK C [(ty49, Mode.ro), (ty49, Mode.ro)] [(ty4, 0)] [RV.tmp 4]
noncomputable def Lw_eqRelationS_4 (x0 : List Rel) (x1 : List Rel) (x5 : Int) : Option ((Bool × PUnit) × PUnit) := loopAt Ew_eqRelationS [1, 1, 0, 1, 0] (Tryz.f22.body.getD .skip) Kw_eqRelationS [V.d none 0 ty49 x0, V.d none 0 ty49 x1, V.dead, V.dead, V.dead, V.d none 0 (Ty.int IntKind.i64) x5, V.dead, V.dead,
 V.dead, V.dead, V.dead, V.dead, V.dead, V.dead, V.dead, V.dead, V.dead, V.dead, V.dead, V.dead, V.dead, V.dead, V.dead,
 V.dead, V.dead, V.dead, V.dead]
noncomputable def Sw_eqRelationS (a0 : List Rel) (a1 : List Rel) : Option ((Bool × PUnit) × PUnit) := Fw_eqRelationS.sem (a0, a1, ())
def jw_eqRelationS : List (Nat × List Nat) := [(1000004, [1, 1, 0, 1, 0])]
theorem jw_eqRelationS_ok : okB jw_eqRelationS (Tryz.f22.body.getD .skip) [] = true := by kernel_rfl
theorem Lw_eqRelationS_4_eq (x0 : List Rel) (x1 : List Rel) (x5 : Int) : Lw_eqRelationS_4 x0 x1 x5 =
  bif decide (x5 < (↑x0.length : Int)) then
 (getI x0 x5).bind fun y =>
  (getI x1 x5).bind fun y_1 =>
   (Sw_eqRelation y y_1).bind fun y =>
    bif !y.fst.fst then some ((false, ()), ()) else Lw_eqRelationS_4 x0 x1 (IntKind.i64.wrap (x5 + 1))
else some ((true, ()), ()) := (turn_eq jw_eqRelationS_ok [1, 1, 0, 1, 0] (by kernel_rfl) _).trans (by kernel_rfl)
theorem Sw_eqRelationS_eq (a0 : List Rel) (a1 : List Rel) : Sw_eqRelationS a0 a1 =
  bif (↑a0.length : Int) != (↑a1.length : Int) then some ((false, ()), ()) else Lw_eqRelationS_4 a0 a1 0 := (Eq.trans (by kernel_rfl : Sw_eqRelationS a0 a1 = denK Ew_eqRelationS (Tryz.f22.body.getD .skip) Kw_eqRelationS (slots0 27 [(ty49, Mode.ro), (ty49, Mode.ro)] (a0, a1, ()))) (all_eq jw_eqRelationS_ok _)).trans (by kernel_rfl)
noncomputable def Ew_markText : Env := mkEnv C tab_w_eqRelationS [0, 1, 3] 20 (fun k => bif k == 1000004 then some 9 else none)
 (Hints.mk (fun x x_1 => none) (fun s => Nat.testBit 0 s) fun x => []) [(ty3, Mode.ro)]
noncomputable def Kw_markText := endK C [(ty3, Mode.ro)] [(ty9, 0)] [RV.tmp 2]
noncomputable def Lw_markText_4 (x0 : Int) (x3 : ByteArray) : Option ((ByteArray × PUnit) × PUnit) := loopAt Ew_markText [1, 1, 1, 0, 0] (Tryz.f70.body.getD .skip) Kw_markText [V.d none 0 ty3 x0, V.dead, V.dead, V.d none 0 Ty.str x3, V.dead, V.dead, V.dead, V.dead, V.dead, V.dead, V.dead,
 V.dead, V.dead, V.dead, V.dead, V.dead, V.dead, V.dead, V.dead, V.dead]
noncomputable def Sw_markText (a0 : Int) : Option ((ByteArray × PUnit) × PUnit) := Fw_markText.sem (a0, ())
def jw_markText : List (Nat × List Nat) := [(1000004, [1, 1, 1, 0, 0])]
theorem jw_markText_ok : okB jw_markText (Tryz.f70.body.getD .skip) [] = true := by kernel_rfl
theorem Lw_markText_4_eq (x0 : Int) (x3 : ByteArray) : Lw_markText_4 x0 x3 =
  bif decide (x0 > 0) then
 bif decide ((strOf [IntKind.u8.wrap (IntKind.i64.wrap (48 + x0.tmod 10))]).size + x3.size ≤ 140737488355328) then
  Lw_markText_4 (IntKind.i64.wrap (x0.tdiv 10)) (strOf [IntKind.u8.wrap (IntKind.i64.wrap (48 + x0.tmod 10))] ++ x3)
 else none
else
 bif decide ((ByteArray.mk #[109]).size + x3.size ≤ 140737488355328) then some ((ByteArray.mk #[109] ++ x3, ()), ())
 else none := (turn_eq jw_markText_ok [1, 1, 1, 0, 0] (by kernel_rfl) _).trans (by kernel_rfl)
theorem Sw_markText_eq (a0 : Int) : Sw_markText a0 =
  bif decide (a0 ≤ 0) then some ((ByteArray.mk #[109, 48], ()), ()) else Lw_markText_4 a0 (ByteArray.mk #[]) := (Eq.trans (by kernel_rfl : Sw_markText a0 = denK Ew_markText (Tryz.f70.body.getD .skip) Kw_markText (slots0 20 [(ty3, Mode.ro)] (a0, ()))) (all_eq jw_markText_ok _)).trans (by kernel_rfl)
noncomputable def Ew_markIntS : Env := mkEnv C tab_w_markText [0, 1, 2, 3, 5, 12] 19 (fun k => bif k == 1000002 then some 35 else none)
 (Hints.mk (fun x x_1 => none) (fun s => Nat.testBit 0 s) fun x => []) [(ty59, Mode.mut 1), (ty3, Mode.ro)]
noncomputable def Kw_markIntS := endK C [(ty59, Mode.mut 1), (ty3, Mode.ro)] [(ty3, 0)] [RV.tmp 4]
noncomputable def Lw_markIntS_2 (x0 : List Int) (x1 : Int) (x5 : Int) : Option ((Int × PUnit) × List Int × PUnit) := loopAt Ew_markIntS [1, 0, 1, 0] (Tryz.f33.body.getD .skip) Kw_markIntS [V.d none 1 ty59 x0, V.d none 0 ty3 x1, V.dead, V.dead, V.dead, V.d none 0 (Ty.int IntKind.i64) x5, V.dead, V.dead,
 V.dead, V.dead, V.dead, V.dead, V.dead, V.dead, V.dead, V.dead, V.dead, V.dead, V.dead]
noncomputable def Sw_markIntS (a0 : List Int) (a1 : Int) : Option ((Int × PUnit) × List Int × PUnit) := Fw_markIntS.sem (a0, a1, ())
def jw_markIntS : List (Nat × List Nat) := [(1000002, [1, 0, 1, 0])]
theorem jw_markIntS_ok : okB jw_markIntS (Tryz.f33.body.getD .skip) [] = true := by kernel_rfl
theorem Lw_markIntS_2_eq (x0 : List Int) (x1 : Int) (x5 : Int) : Lw_markIntS_2 x0 x1 x5 =
  bif decide (x5 < (↑x0.length : Int)) then
 (getI x0 x5).bind fun y =>
  (getI x0 x5).bind fun y =>
   (getI x0 x5).bind fun y =>
    (some (x0.set x5.toNat x1)).bind fun y => Lw_markIntS_2 y (IntKind.i64.wrap (x1 + 1)) (IntKind.i64.wrap (x5 + 1))
else some ((x1, ()), x0, ()) := (turn_eq jw_markIntS_ok [1, 0, 1, 0] (by kernel_rfl) _).trans (by kernel_rfl)
theorem Sw_markIntS_eq (a0 : List Int) (a1 : Int) : Sw_markIntS a0 a1 =
  Lw_markIntS_2 a0 a1 0 := (Eq.trans (by kernel_rfl : Sw_markIntS a0 a1 = denK Ew_markIntS (Tryz.f33.body.getD .skip) Kw_markIntS (slots0 19 [(ty59, Mode.mut 1), (ty3, Mode.ro)] (a0, a1, ()))) (all_eq jw_markIntS_ok _)).trans (by kernel_rfl)
noncomputable def Ew_markAtomS : Env := mkEnv C tab_w_markIntS [0, 1, 2, 3, 5, 12, 14, 15, 19, 22, 26, 31] 36 (fun k => bif k == 1000002 then some 35 else none)
 (Hints.mk (fun x x_1 => none) (fun s => Nat.testBit 0 s) fun x => []) [(ty78, Mode.mut 2), (ty3, Mode.ro)]
noncomputable def Kw_markAtomS := endK C [(ty78, Mode.mut 2), (ty3, Mode.ro)] [(ty3, 0)] [RV.tmp 4]
noncomputable def Lw_markAtomS_2 (x0 : List Atm) (x1 : Int) (x5 : Int) : Option ((Int × PUnit) × List Atm × PUnit) := loopAt Ew_markAtomS [1, 0, 1, 0] (Tryz.f105.body.getD .skip) Kw_markAtomS [V.d none 2 ty78 x0, V.d none 0 ty3 x1, V.dead, V.dead, V.dead, V.d none 0 (Ty.int IntKind.i64) x5, V.dead, V.dead,
 V.dead, V.dead, V.dead, V.dead, V.dead, V.dead, V.dead, V.dead, V.dead, V.dead, V.dead, V.dead, V.dead, V.dead, V.dead,
 V.dead, V.dead, V.dead, V.dead, V.dead, V.dead, V.dead, V.dead, V.dead, V.dead, V.dead, V.dead, V.dead]
noncomputable def Sw_markAtomS (a0 : List Atm) (a1 : Int) : Option ((Int × PUnit) × List Atm × PUnit) := Fw_markAtomS.sem (a0, a1, ())
def jw_markAtomS : List (Nat × List Nat) := [(1000002, [1, 0, 1, 0])]
theorem jw_markAtomS_ok : okB jw_markAtomS (Tryz.f105.body.getD .skip) [] = true := by kernel_rfl
theorem Lw_markAtomS_2_eq (x0 : List Atm) (x1 : Int) (x5 : Int) : Lw_markAtomS_2 x0 x1 x5 =
  bif decide (x5 < (↑x0.length : Int)) then
 (getI x0 x5).bind fun y =>
  (getI x0 x5).bind fun y =>
   (getI x0 x5).bind fun y =>
    (Sw_markIntS y.fst x1).bind fun y =>
     (getI x0 x5).bind fun y_1 =>
      (some (x0.set x5.toNat (y.snd.fst, y_1.snd))).bind fun y_2 =>
       (getI y_2 x5).bind fun y_3 =>
        (getI y_2 x5).bind fun y_4 =>
         (getI y_2 x5).bind fun y_5 =>
          (some (y_2.set x5.toNat (y_5.fst, y.fst.fst, y_5.snd.snd))).bind fun y_6 =>
           (getI y_6 x5).bind fun y_7 =>
            (getI y_6 x5).bind fun y_8 =>
             (getI y_6 x5).bind fun y_9 =>
              (some (y_6.set x5.toNat (y_9.fst, y_9.snd.fst, (IntKind.i64.wrap (y.fst.fst + 1)).tmod 3 == 0))).bind
               fun y_10 =>
               Lw_markAtomS_2 y_10 (IntKind.i64.wrap (IntKind.i64.wrap (y.fst.fst + 1) + 1)) (IntKind.i64.wrap (x5 + 1))
else some ((x1, ()), x0, ()) := (turn_eq jw_markAtomS_ok [1, 0, 1, 0] (by kernel_rfl) _).trans (by kernel_rfl)
theorem Sw_markAtomS_eq (a0 : List Atm) (a1 : Int) : Sw_markAtomS a0 a1 =
  Lw_markAtomS_2 a0 a1 0 := (Eq.trans (by kernel_rfl : Sw_markAtomS a0 a1 = denK Ew_markAtomS (Tryz.f105.body.getD .skip) Kw_markAtomS (slots0 36 [(ty78, Mode.mut 2), (ty3, Mode.ro)] (a0, a1, ()))) (all_eq jw_markAtomS_ok _)).trans (by kernel_rfl)
noncomputable def Ew_markRowS : Env := mkEnv C tab_w_markAtomS [0, 1, 2, 3, 5, 12, 16, 20, 23, 24, 28, 30, 31, 32] 37
 (fun k => bif k == 1000002 then some 35 else none)
 (Hints.mk (fun x x_1 => none) (fun s => Nat.testBit 0 s) fun x => []) [(ty115, Mode.mut 3), (ty3, Mode.ro)]
noncomputable def Kw_markRowS := endK C [(ty115, Mode.mut 3), (ty3, Mode.ro)] [(ty3, 0)] [RV.tmp 4]
noncomputable def Lw_markRowS_2 (x0 : List Rw) (x1 : Int) (x5 : Int) : Option ((Int × PUnit) × List Rw × PUnit) := loopAt Ew_markRowS [1, 0, 1, 0] (Tryz.f71.body.getD .skip) Kw_markRowS [V.d none 3 ty115 x0, V.d none 0 ty3 x1, V.dead, V.dead, V.dead, V.d none 0 (Ty.int IntKind.i64) x5, V.dead, V.dead,
 V.dead, V.dead, V.dead, V.dead, V.dead, V.dead, V.dead, V.dead, V.dead, V.dead, V.dead, V.dead, V.dead, V.dead, V.dead,
 V.dead, V.dead, V.dead, V.dead, V.dead, V.dead, V.dead, V.dead, V.dead, V.dead, V.dead, V.dead, V.dead, V.dead]
noncomputable def Sw_markRowS (a0 : List Rw) (a1 : Int) : Option ((Int × PUnit) × List Rw × PUnit) := Fw_markRowS.sem (a0, a1, ())
def jw_markRowS : List (Nat × List Nat) := [(1000002, [1, 0, 1, 0])]
theorem jw_markRowS_ok : okB jw_markRowS (Tryz.f71.body.getD .skip) [] = true := by kernel_rfl
theorem Lw_markRowS_2_eq (x0 : List Rw) (x1 : Int) (x5 : Int) : Lw_markRowS_2 x0 x1 x5 =
  bif decide (x5 < (↑x0.length : Int)) then
 (Sw_markText x1).bind fun y =>
  (getI x0 x5).bind fun y_1 =>
   (getI x0 x5).bind fun y_2 =>
    (getI x0 x5).bind fun y_3 =>
     (some (x0.set x5.toNat (y.fst.fst, y_3.snd))).bind fun y =>
      (getI y x5).bind fun y_4 =>
       (getI y x5).bind fun y_5 =>
        (getI y x5).bind fun y_6 =>
         (some (y.set x5.toNat (y_6.fst, IntKind.i64.wrap (x1 + 1), y_6.snd.snd))).bind fun y =>
          (getI y x5).bind fun y_7 =>
           (getI y x5).bind fun y_8 =>
            (getI y x5).bind fun y_9 =>
             (Sw_markAtomS y_9.snd.snd (IntKind.i64.wrap (IntKind.i64.wrap (x1 + 1) + 1))).bind fun y_10 =>
              (getI y x5).bind fun y_11 =>
               (some (y.set x5.toNat (y_11.fst, y_11.snd.fst, y_10.snd.fst))).bind fun y =>
                Lw_markRowS_2 y y_10.fst.fst (IntKind.i64.wrap (x5 + 1))
else some ((x1, ()), x0, ()) := (turn_eq jw_markRowS_ok [1, 0, 1, 0] (by kernel_rfl) _).trans (by kernel_rfl)
theorem Sw_markRowS_eq (a0 : List Rw) (a1 : Int) : Sw_markRowS a0 a1 =
  Lw_markRowS_2 a0 a1 0 := (Eq.trans (by kernel_rfl : Sw_markRowS a0 a1 = denK Ew_markRowS (Tryz.f71.body.getD .skip) Kw_markRowS (slots0 37 [(ty115, Mode.mut 3), (ty3, Mode.ro)] (a0, a1, ()))) (all_eq jw_markRowS_ok _)).trans (by kernel_rfl)
noncomputable def Ew_markRelationS : Env := mkEnv C tab_w_markRowS [0, 1, 2, 3, 5, 12, 16, 20, 23, 27, 29, 30] 35 (fun k => bif k == 1000002 then some 35 else none)
 (Hints.mk (fun x x_1 => none) (fun s => Nat.testBit 0 s) fun x => []) [(ty49, Mode.mut 4), (ty3, Mode.ro)]
noncomputable def Kw_markRelationS := endK C [(ty49, Mode.mut 4), (ty3, Mode.ro)] [(ty3, 0)] [RV.tmp 4]
noncomputable def Lw_markRelationS_2 (x0 : List Rel) (x1 : Int) (x5 : Int) : Option ((Int × PUnit) × List Rel × PUnit) := loopAt Ew_markRelationS [1, 0, 1, 0] (Tryz.f23.body.getD .skip) Kw_markRelationS [V.d none 4 ty49 x0, V.d none 0 ty3 x1, V.dead, V.dead, V.dead, V.d none 0 (Ty.int IntKind.i64) x5, V.dead, V.dead,
 V.dead, V.dead, V.dead, V.dead, V.dead, V.dead, V.dead, V.dead, V.dead, V.dead, V.dead, V.dead, V.dead, V.dead, V.dead,
 V.dead, V.dead, V.dead, V.dead, V.dead, V.dead, V.dead, V.dead, V.dead, V.dead, V.dead, V.dead]
noncomputable def Sw_markRelationS (a0 : List Rel) (a1 : Int) : Option ((Int × PUnit) × List Rel × PUnit) := Fw_markRelationS.sem (a0, a1, ())
def jw_markRelationS : List (Nat × List Nat) := [(1000002, [1, 0, 1, 0])]
theorem jw_markRelationS_ok : okB jw_markRelationS (Tryz.f23.body.getD .skip) [] = true := by kernel_rfl
theorem Lw_markRelationS_2_eq (x0 : List Rel) (x1 : Int) (x5 : Int) : Lw_markRelationS_2 x0 x1 x5 =
  bif decide (x5 < (↑x0.length : Int)) then
 (Sw_markText x1).bind fun y =>
  (getI x0 x5).bind fun y_1 =>
   (getI x0 x5).bind fun y_2 =>
    (getI x0 x5).bind fun y_3 =>
     (some (x0.set x5.toNat (y.fst.fst, y_3.snd))).bind fun y =>
      (getI y x5).bind fun y_4 =>
       (getI y x5).bind fun y_5 =>
        (getI y x5).bind fun y_6 =>
         (some (y.set x5.toNat (y_6.fst, IntKind.i64.wrap (x1 + 1), y_6.snd.snd))).bind fun y =>
          (getI y x5).bind fun y_7 =>
           (getI y x5).bind fun y_8 =>
            (getI y x5).bind fun y_9 =>
             (Sw_markRowS y_9.snd.snd (IntKind.i64.wrap (IntKind.i64.wrap (x1 + 1) + 1))).bind fun y_10 =>
              (getI y x5).bind fun y_11 =>
               (some (y.set x5.toNat (y_11.fst, y_11.snd.fst, y_10.snd.fst))).bind fun y =>
                Lw_markRelationS_2 y y_10.fst.fst (IntKind.i64.wrap (x5 + 1))
else some ((x1, ()), x0, ()) := (turn_eq jw_markRelationS_ok [1, 0, 1, 0] (by kernel_rfl) _).trans (by kernel_rfl)
theorem Sw_markRelationS_eq (a0 : List Rel) (a1 : Int) : Sw_markRelationS a0 a1 =
  Lw_markRelationS_2 a0 a1 0 := (Eq.trans (by kernel_rfl : Sw_markRelationS a0 a1 = denK Ew_markRelationS (Tryz.f23.body.getD .skip) Kw_markRelationS (slots0 35 [(ty49, Mode.mut 4), (ty3, Mode.ro)] (a0, a1, ()))) (all_eq jw_markRelationS_ok _)).trans (by kernel_rfl)
noncomputable def Ew_markNodeS : Env := mkEnv C tab_w_markRelationS
 [0, 1, 2, 3, 5, 12, 15, 19, 21, 22, 23, 27, 30, 31, 35, 40, 41, 45, 49, 53, 57, 61, 63, 64, 68, 71, 75, 78, 82, 85] 90
 (fun k => bif k == 1000002 then some 35 else none)
 (Hints.mk (fun x x_1 => none) (fun s => Nat.testBit 0 s) fun x => []) [(ty43, Mode.mut 2), (ty3, Mode.ro)]
noncomputable def Kw_markNodeS := endK C [(ty43, Mode.mut 2), (ty3, Mode.ro)] [(ty3, 0)] [RV.tmp 4]
noncomputable def Lw_markNodeS_2 (x0 : List Nod) (x1 : Int) (x5 : Int) : Option ((Int × PUnit) × List Nod × PUnit) := loopAt Ew_markNodeS [1, 0, 1, 0] (Tryz.f72.body.getD .skip) Kw_markNodeS [V.d none 2 ty43 x0, V.d none 0 ty3 x1, V.dead, V.dead, V.dead, V.d none 0 (Ty.int IntKind.i64) x5, V.dead, V.dead,
 V.dead, V.dead, V.dead, V.dead, V.dead, V.dead, V.dead, V.dead, V.dead, V.dead, V.dead, V.dead, V.dead, V.dead, V.dead,
 V.dead, V.dead, V.dead, V.dead, V.dead, V.dead, V.dead, V.dead, V.dead, V.dead, V.dead, V.dead, V.dead, V.dead, V.dead,
 V.dead, V.dead, V.dead, V.dead, V.dead, V.dead, V.dead, V.dead, V.dead, V.dead, V.dead, V.dead, V.dead, V.dead, V.dead,
 V.dead, V.dead, V.dead, V.dead, V.dead, V.dead, V.dead, V.dead, V.dead, V.dead, V.dead, V.dead, V.dead, V.dead, V.dead,
 V.dead, V.dead, V.dead, V.dead, V.dead, V.dead, V.dead, V.dead, V.dead, V.dead, V.dead, V.dead, V.dead, V.dead, V.dead,
 V.dead, V.dead, V.dead, V.dead, V.dead, V.dead, V.dead]
noncomputable def Sw_markNodeS (a0 : List Nod) (a1 : Int) : Option ((Int × PUnit) × List Nod × PUnit) := Fw_markNodeS.sem (a0, a1, ())
def jw_markNodeS : List (Nat × List Nat) := [(1000002, [1, 0, 1, 0])]
theorem jw_markNodeS_ok : okB jw_markNodeS (Tryz.f72.body.getD .skip) [] = true := by kernel_rfl
theorem Lw_markNodeS_2_eq (x0 : List Nod) (x1 : Int) (x5 : Int) : Lw_markNodeS_2 x0 x1 x5 =
  bif decide (x5 < (↑x0.length : Int)) then
 (getI x0 x5).bind fun y =>
  (getI x0 x5).bind fun y =>
   (getI x0 x5).bind fun y =>
    (some (x0.set x5.toNat (x1, y.snd))).bind fun y =>
     (getI y x5).bind fun y_1 =>
      (getI y x5).bind fun y_2 =>
       (getI y x5).bind fun y_3 =>
        (Sw_markIntS y_3.snd.fst.fst (IntKind.i64.wrap (x1 + 1))).bind fun y_4 =>
         (getI y x5).bind fun y_5 =>
          (some (y.set x5.toNat (y_5.fst, (y_4.snd.fst, y_5.snd.fst.snd), y_5.snd.snd))).bind fun y =>
           (getI y x5).bind fun y_6 =>
            (getI y x5).bind fun y_7 =>
             (getI y x5).bind fun y_8 =>
              (some (y.set x5.toNat (y_8.fst, (y_8.snd.fst.fst, y_4.fst.fst, y_8.snd.fst.snd.snd), y_8.snd.snd))).bind
               fun y =>
               (getI y x5).bind fun y_9 =>
                (getI y x5).bind fun y_10 =>
                 (getI y x5).bind fun y_11 =>
                  (some
                     (y.set x5.toNat
                      (y_11.fst,
                       (y_11.snd.fst.fst, y_11.snd.fst.snd.fst, (IntKind.i64.wrap (y_4.fst.fst + 1)).tmod 3 == 0),
                       y_11.snd.snd))).bind
                   fun y =>
                   (Sw_markText (IntKind.i64.wrap (IntKind.i64.wrap (y_4.fst.fst + 1) + 1))).bind fun y_12 =>
                    (getI y x5).bind fun y_13 =>
                     (getI y x5).bind fun y_14 =>
                      (getI y x5).bind fun y_15 =>
                       (some (y.set x5.toNat (y_15.fst, y_15.snd.fst, y_12.fst.fst, y_15.snd.snd.snd))).bind fun y =>
                        (Sw_markText
                           (IntKind.i64.wrap (IntKind.i64.wrap (IntKind.i64.wrap (y_4.fst.fst + 1) + 1) + 1))).bind
                         fun y_16 =>
                         (getI y x5).bind fun y_17 =>
                          (getI y x5).bind fun y_18 =>
                           (getI y x5).bind fun y_19 =>
                            (some
                               (y.set x5.toNat
                                (y_19.fst, y_19.snd.fst, y_19.snd.snd.fst, y_16.fst.fst, y_19.snd.snd.snd.snd))).bind
                             fun y =>
                             (getI y x5).bind fun y_20 =>
                              (getI y x5).bind fun y_21 =>
                               (getI y x5).bind fun y_22 =>
                                (Sw_markIntS y_22.snd.snd.snd.snd.fst
                                   (IntKind.i64.wrap
                                    (IntKind.i64.wrap (IntKind.i64.wrap (IntKind.i64.wrap (y_4.fst.fst + 1) + 1) + 1) +
                                     1))).bind
                                 fun y_23 =>
                                 (getI y x5).bind fun y_24 =>
                                  (some
                                     (y.set x5.toNat
                                      (y_24.fst, y_24.snd.fst, y_24.snd.snd.fst, y_24.snd.snd.snd.fst, y_23.snd.fst,
                                       y_24.snd.snd.snd.snd.snd))).bind
                                   fun y =>
                                   (getI y x5).bind fun y_25 =>
                                    (getI y x5).bind fun y_26 =>
                                     (getI y x5).bind fun y_27 =>
                                      (some
                                         (y.set x5.toNat
                                          (y_27.fst, y_27.snd.fst, y_27.snd.snd.fst, y_27.snd.snd.snd.fst,
                                           y_27.snd.snd.snd.snd.fst, y_23.fst.fst, y_27.snd.snd.snd.snd.snd.snd))).bind
                                       fun y =>
                                       (getI y x5).bind fun y_28 =>
                                        (getI y x5).bind fun y_29 =>
                                         (getI y x5).bind fun y_30 =>
                                          (some
                                             (y.set x5.toNat
                                              (y_30.fst, y_30.snd.fst, y_30.snd.snd.fst, y_30.snd.snd.snd.fst,
                                               y_30.snd.snd.snd.snd.fst, y_30.snd.snd.snd.snd.snd.fst,
                                               IntKind.i64.wrap (y_23.fst.fst + 1),
                                               y_30.snd.snd.snd.snd.snd.snd.snd))).bind
                                           fun y =>
                                           (getI y x5).bind fun y_31 =>
                                            (getI y x5).bind fun y_32 =>
                                             (getI y x5).bind fun y_33 =>
                                              (some
                                                 (y.set x5.toNat
                                                  (y_33.fst, y_33.snd.fst, y_33.snd.snd.fst, y_33.snd.snd.snd.fst,
                                                   y_33.snd.snd.snd.snd.fst, y_33.snd.snd.snd.snd.snd.fst,
                                                   y_33.snd.snd.snd.snd.snd.snd.fst,
                                                   IntKind.i64.wrap (IntKind.i64.wrap (y_23.fst.fst + 1) + 1)))).bind
                                               fun y =>
                                               Lw_markNodeS_2 y
                                                (IntKind.i64.wrap
                                                 (IntKind.i64.wrap (IntKind.i64.wrap (y_23.fst.fst + 1) + 1) + 1))
                                                (IntKind.i64.wrap (x5 + 1))
else some ((x1, ()), x0, ()) := (turn_eq jw_markNodeS_ok [1, 0, 1, 0] (by kernel_rfl) _).trans (by kernel_rfl)
theorem Sw_markNodeS_eq (a0 : List Nod) (a1 : Int) : Sw_markNodeS a0 a1 =
  Lw_markNodeS_2 a0 a1 0 := (Eq.trans (by kernel_rfl : Sw_markNodeS a0 a1 = denK Ew_markNodeS (Tryz.f72.body.getD .skip) Kw_markNodeS (slots0 90 [(ty43, Mode.mut 2), (ty3, Mode.ro)] (a0, a1, ()))) (all_eq jw_markNodeS_ok _)).trans (by kernel_rfl)
noncomputable def Ew_markIntSS : Env := mkEnv C tab_w_markNodeS [0, 1, 2, 3, 5, 12, 14] 19 (fun k => bif k == 1000002 then some 35 else none)
 (Hints.mk (fun x x_1 => none) (fun s => Nat.testBit 0 s) fun x => []) [(ty120, Mode.mut 2), (ty3, Mode.ro)]
noncomputable def Kw_markIntSS := endK C [(ty120, Mode.mut 2), (ty3, Mode.ro)] [(ty3, 0)] [RV.tmp 4]
noncomputable def Lw_markIntSS_2 (x0 : List (List Int)) (x1 : Int) (x5 : Int) : Option ((Int × PUnit) × List (List Int) × PUnit) := loopAt Ew_markIntSS [1, 0, 1, 0] (Tryz.f123.body.getD .skip) Kw_markIntSS [V.d none 2 ty120 x0, V.d none 0 ty3 x1, V.dead, V.dead, V.dead, V.d none 0 (Ty.int IntKind.i64) x5, V.dead, V.dead,
 V.dead, V.dead, V.dead, V.dead, V.dead, V.dead, V.dead, V.dead, V.dead, V.dead, V.dead]
noncomputable def Sw_markIntSS (a0 : List (List Int)) (a1 : Int) : Option ((Int × PUnit) × List (List Int) × PUnit) := Fw_markIntSS.sem (a0, a1, ())
def jw_markIntSS : List (Nat × List Nat) := [(1000002, [1, 0, 1, 0])]
theorem jw_markIntSS_ok : okB jw_markIntSS (Tryz.f123.body.getD .skip) [] = true := by kernel_rfl
theorem Lw_markIntSS_2_eq (x0 : List (List Int)) (x1 : Int) (x5 : Int) : Lw_markIntSS_2 x0 x1 x5 =
  bif decide (x5 < (↑x0.length : Int)) then
 (getI x0 x5).bind fun y =>
  (getI x0 x5).bind fun y =>
   (getI x0 x5).bind fun y =>
    (Sw_markIntS y x1).bind fun y =>
     (getI x0 x5).bind fun y_1 =>
      (some (x0.set x5.toNat y.snd.fst)).bind fun y_2 => Lw_markIntSS_2 y_2 y.fst.fst (IntKind.i64.wrap (x5 + 1))
else some ((x1, ()), x0, ()) := (turn_eq jw_markIntSS_ok [1, 0, 1, 0] (by kernel_rfl) _).trans (by kernel_rfl)
theorem Sw_markIntSS_eq (a0 : List (List Int)) (a1 : Int) : Sw_markIntSS a0 a1 =
  Lw_markIntSS_2 a0 a1 0 := (Eq.trans (by kernel_rfl : Sw_markIntSS a0 a1 = denK Ew_markIntSS (Tryz.f123.body.getD .skip) Kw_markIntSS (slots0 19 [(ty120, Mode.mut 2), (ty3, Mode.ro)] (a0, a1, ()))) (all_eq jw_markIntSS_ok _)).trans (by kernel_rfl)
noncomputable def Ew_markSupportS : Env := mkEnv C tab_w_markIntSS [0, 1, 2, 3, 5, 12, 15, 16, 20, 22, 23, 24, 28, 30, 31] 36
 (fun k => bif k == 1000002 then some 35 else none)
 (Hints.mk (fun x x_1 => none) (fun s => Nat.testBit 0 s) fun x => []) [(ty44, Mode.mut 3), (ty3, Mode.ro)]
noncomputable def Kw_markSupportS := endK C [(ty44, Mode.mut 3), (ty3, Mode.ro)] [(ty3, 0)] [RV.tmp 4]
noncomputable def Lw_markSupportS_2 (x0 : List Sup) (x1 : Int) (x5 : Int) : Option ((Int × PUnit) × List Sup × PUnit) := loopAt Ew_markSupportS [1, 0, 1, 0] (Tryz.f73.body.getD .skip) Kw_markSupportS [V.d none 3 ty44 x0, V.d none 0 ty3 x1, V.dead, V.dead, V.dead, V.d none 0 (Ty.int IntKind.i64) x5, V.dead, V.dead,
 V.dead, V.dead, V.dead, V.dead, V.dead, V.dead, V.dead, V.dead, V.dead, V.dead, V.dead, V.dead, V.dead, V.dead, V.dead,
 V.dead, V.dead, V.dead, V.dead, V.dead, V.dead, V.dead, V.dead, V.dead, V.dead, V.dead, V.dead, V.dead]
noncomputable def Sw_markSupportS (a0 : List Sup) (a1 : Int) : Option ((Int × PUnit) × List Sup × PUnit) := Fw_markSupportS.sem (a0, a1, ())
def jw_markSupportS : List (Nat × List Nat) := [(1000002, [1, 0, 1, 0])]
theorem jw_markSupportS_ok : okB jw_markSupportS (Tryz.f73.body.getD .skip) [] = true := by kernel_rfl
theorem Lw_markSupportS_2_eq (x0 : List Sup) (x1 : Int) (x5 : Int) : Lw_markSupportS_2 x0 x1 x5 =
  bif decide (x5 < (↑x0.length : Int)) then
 (getI x0 x5).bind fun y =>
  (getI x0 x5).bind fun y =>
   (getI x0 x5).bind fun y =>
    (some (x0.set x5.toNat ((x1, y.fst.snd), y.snd))).bind fun y =>
     (getI y x5).bind fun y_1 =>
      (getI y x5).bind fun y_2 =>
       (getI y x5).bind fun y_3 =>
        (Sw_markAtomS y_3.fst.snd (IntKind.i64.wrap (x1 + 1))).bind fun y_4 =>
         (getI y x5).bind fun y_5 =>
          (some (y.set x5.toNat ((y_5.fst.fst, y_4.snd.fst), y_5.snd))).bind fun y =>
           (getI y x5).bind fun y_6 =>
            (getI y x5).bind fun y_7 =>
             (getI y x5).bind fun y_8 =>
              (Sw_markIntSS y_8.snd y_4.fst.fst).bind fun y_9 =>
               (getI y x5).bind fun y_10 =>
                (some (y.set x5.toNat (y_10.fst, y_9.snd.fst))).bind fun y =>
                 Lw_markSupportS_2 y y_9.fst.fst (IntKind.i64.wrap (x5 + 1))
else some ((x1, ()), x0, ()) := (turn_eq jw_markSupportS_ok [1, 0, 1, 0] (by kernel_rfl) _).trans (by kernel_rfl)
theorem Sw_markSupportS_eq (a0 : List Sup) (a1 : Int) : Sw_markSupportS a0 a1 =
  Lw_markSupportS_2 a0 a1 0 := (Eq.trans (by kernel_rfl : Sw_markSupportS a0 a1 = denK Ew_markSupportS (Tryz.f73.body.getD .skip) Kw_markSupportS (slots0 36 [(ty44, Mode.mut 3), (ty3, Mode.ro)] (a0, a1, ()))) (all_eq jw_markSupportS_ok _)).trans (by kernel_rfl)
noncomputable def Ew_markView : Env := mkEnv C tab_w_markSupportS [0, 1, 2, 3, 5, 9] 14 (fun x => none)
 (Hints.mk (fun x x_1 => none) (fun s => Nat.testBit 4 s) fun r => bif r == 2 then [6, 10] else [])
 [(ty46, Mode.mut 3), (ty3, Mode.ro)]
noncomputable def Kw_markView := endK C [(ty46, Mode.mut 3), (ty3, Mode.ro)] [(ty3, 0)] [RV.tmp 4]
noncomputable def Sw_markView (a0 : Viw) (a1 : Int) : Option ((Int × PUnit) ×
 Viw ×
  PUnit) := Fw_markView.sem (a0, a1, ())
theorem Sw_markView_eq (a0 : Viw) (a1 : Int) : Sw_markView a0 a1 =
  (Sw_markNodeS a0.fst a1).bind fun y =>
 (Sw_markSupportS a0.snd y.fst.fst).bind fun y_1 => some ((y_1.fst.fst, ()), (y.snd.fst, y_1.snd.fst), ()) := by kernel_rfl
noncomputable def Ew_heldIntS : Env := mkEnv C tab_w_markView [0, 1, 2, 3, 5, 12, 14] 21 (fun k => bif k == 1000002 then some 35 else none)
 (Hints.mk (fun x x_1 => none) (fun s => Nat.testBit 0 s) fun x => []) [(ty59, Mode.ro), (ty3, Mode.ro)]
noncomputable def Kw_heldIntS := endK C [(ty59, Mode.ro), (ty3, Mode.ro)] [(ty3, 0)] [RV.tmp 4]
noncomputable def Lw_heldIntS_2 (x0 : List Int) (x1 : Int) (x5 : Int) : Option ((Int × PUnit) × PUnit) := loopAt Ew_heldIntS [1, 0, 1, 0] (Tryz.f34.body.getD .skip) Kw_heldIntS [V.d none 0 ty59 x0, V.d none 0 ty3 x1, V.dead, V.dead, V.dead, V.d none 0 (Ty.int IntKind.i64) x5, V.dead, V.dead,
 V.dead, V.dead, V.dead, V.dead, V.dead, V.dead, V.dead, V.dead, V.dead, V.dead, V.dead, V.dead, V.dead]
noncomputable def Sw_heldIntS (a0 : List Int) (a1 : Int) : Option ((Int × PUnit) × PUnit) := Fw_heldIntS.sem (a0, a1, ())
def jw_heldIntS : List (Nat × List Nat) := [(1000002, [1, 0, 1, 0])]
theorem jw_heldIntS_ok : okB jw_heldIntS (Tryz.f34.body.getD .skip) [] = true := by kernel_rfl
theorem Lw_heldIntS_2_eq (x0 : List Int) (x1 : Int) (x5 : Int) : Lw_heldIntS_2 x0 x1 x5 =
  bif decide (x5 < (↑x0.length : Int)) then
 (getI x0 x5).bind fun y =>
  bif y != x1 then some ((-1, ()), ()) else Lw_heldIntS_2 x0 (IntKind.i64.wrap (x1 + 1)) (IntKind.i64.wrap (x5 + 1))
else some ((x1, ()), ()) := (turn_eq jw_heldIntS_ok [1, 0, 1, 0] (by kernel_rfl) _).trans (by kernel_rfl)
theorem Sw_heldIntS_eq (a0 : List Int) (a1 : Int) : Sw_heldIntS a0 a1 =
  Lw_heldIntS_2 a0 a1 0 := (Eq.trans (by kernel_rfl : Sw_heldIntS a0 a1 = denK Ew_heldIntS (Tryz.f34.body.getD .skip) Kw_heldIntS (slots0 21 [(ty59, Mode.ro), (ty3, Mode.ro)] (a0, a1, ()))) (all_eq jw_heldIntS_ok _)).trans (by kernel_rfl)
noncomputable def Ew_heldNodeS : Env := mkEnv C tab_w_heldIntS
 (have y :=
  have y :=
   have y := [93, 94, 100, 102, 103];
   76 :: 82 :: 84 :: 85 :: 91 :: y;
  have y := 63 :: 65 :: 66 :: 73 :: 75 :: y;
  45 :: 53 :: 55 :: 56 :: y;
 have y :=
  have y := 34 :: 35 :: 41 :: 43 :: 44 :: y;
  23 :: 24 :: 25 :: 31 :: 33 :: y;
 have y := 5 :: 12 :: 14 :: 15 :: 21 :: y;
 0 :: 1 :: 2 :: 3 :: y)
 110 (fun k => bif k == 1000002 then some 35 else none)
 (Hints.mk (fun x x_1 => none) (fun s => Nat.testBit 0 s) fun x => []) [(ty43, Mode.ro), (ty3, Mode.ro)]
noncomputable def Kw_heldNodeS := endK C [(ty43, Mode.ro), (ty3, Mode.ro)] [(ty3, 0)] [RV.tmp 4]
noncomputable def Lw_heldNodeS_2 (x0 : List Nod) (x1 : Int) (x5 : Int) : Option ((Int × PUnit) × PUnit) := loopAt Ew_heldNodeS [1, 0, 1, 0] (Tryz.f74.body.getD .skip) Kw_heldNodeS [V.d none 0 ty43 x0, V.d none 0 ty3 x1, V.dead, V.dead, V.dead, V.d none 0 (Ty.int IntKind.i64) x5, V.dead, V.dead,
 V.dead, V.dead, V.dead, V.dead, V.dead, V.dead, V.dead, V.dead, V.dead, V.dead, V.dead, V.dead, V.dead, V.dead, V.dead,
 V.dead, V.dead, V.dead, V.dead, V.dead, V.dead, V.dead, V.dead, V.dead, V.dead, V.dead, V.dead, V.dead, V.dead, V.dead,
 V.dead, V.dead, V.dead, V.dead, V.dead, V.dead, V.dead, V.dead, V.dead, V.dead, V.dead, V.dead, V.dead, V.dead, V.dead,
 V.dead, V.dead, V.dead, V.dead, V.dead, V.dead, V.dead, V.dead, V.dead, V.dead, V.dead, V.dead, V.dead, V.dead, V.dead,
 V.dead, V.dead, V.dead, V.dead, V.dead, V.dead, V.dead, V.dead, V.dead, V.dead, V.dead, V.dead, V.dead, V.dead, V.dead,
 V.dead, V.dead, V.dead, V.dead, V.dead, V.dead, V.dead, V.dead, V.dead, V.dead, V.dead, V.dead, V.dead, V.dead, V.dead,
 V.dead, V.dead, V.dead, V.dead, V.dead, V.dead, V.dead, V.dead, V.dead, V.dead, V.dead, V.dead]
noncomputable def Sw_heldNodeS (a0 : List Nod) (a1 : Int) : Option ((Int × PUnit) × PUnit) := Fw_heldNodeS.sem (a0, a1, ())
def jw_heldNodeS : List (Nat × List Nat) := [(1000002, [1, 0, 1, 0])]
theorem jw_heldNodeS_ok : okB jw_heldNodeS (Tryz.f74.body.getD .skip) [] = true := by kernel_rfl
theorem Lw_heldNodeS_2_eq (x0 : List Nod) (x1 : Int) (x5 : Int) : Lw_heldNodeS_2 x0 x1 x5 =
  bif decide (x5 < (↑x0.length : Int)) then
 (getI x0 x5).bind fun y =>
  bif y.fst != x1 then some ((-1, ()), ())
  else
   (getI x0 x5).bind fun y =>
    (Sw_heldIntS y.snd.fst.fst (IntKind.i64.wrap (x1 + 1))).bind fun y =>
     bif decide (y.fst.fst < 0) then some ((-1, ()), ())
     else
      (getI x0 x5).bind fun y_1 =>
       bif y_1.snd.fst.snd.fst != y.fst.fst then some ((-1, ()), ())
       else
        (getI x0 x5).bind fun y_2 =>
         bif !y_2.snd.fst.snd.snd == ((IntKind.i64.wrap (y.fst.fst + 1)).tmod 3 == 0) then some ((-1, ()), ())
         else
          (getI x0 x5).bind fun y_3 =>
           (Sw_markText (IntKind.i64.wrap (IntKind.i64.wrap (y.fst.fst + 1) + 1))).bind fun y_4 =>
            bif !ByteArray.toList y_3.snd.snd.fst == ByteArray.toList y_4.fst.fst then some ((-1, ()), ())
            else
             (getI x0 x5).bind fun y_5 =>
              (Sw_markText (IntKind.i64.wrap (IntKind.i64.wrap (IntKind.i64.wrap (y.fst.fst + 1) + 1) + 1))).bind
               fun y_6 =>
               bif !ByteArray.toList y_5.snd.snd.snd.fst == ByteArray.toList y_6.fst.fst then some ((-1, ()), ())
               else
                (getI x0 x5).bind fun y_7 =>
                 (Sw_heldIntS y_7.snd.snd.snd.snd.fst
                    (IntKind.i64.wrap
                     (IntKind.i64.wrap (IntKind.i64.wrap (IntKind.i64.wrap (y.fst.fst + 1) + 1) + 1) + 1))).bind
                  fun y =>
                  bif decide (y.fst.fst < 0) then some ((-1, ()), ())
                  else
                   (getI x0 x5).bind fun y_8 =>
                    bif y_8.snd.snd.snd.snd.snd.fst != y.fst.fst then some ((-1, ()), ())
                    else
                     (getI x0 x5).bind fun y_9 =>
                      bif y_9.snd.snd.snd.snd.snd.snd.fst != IntKind.i64.wrap (y.fst.fst + 1) then some ((-1, ()), ())
                      else
                       (getI x0 x5).bind fun y_10 =>
                        bif
                          y_10.snd.snd.snd.snd.snd.snd.snd !=
                           IntKind.i64.wrap (IntKind.i64.wrap (y.fst.fst + 1) + 1) then
                         some ((-1, ()), ())
                        else
                         Lw_heldNodeS_2 x0
                          (IntKind.i64.wrap (IntKind.i64.wrap (IntKind.i64.wrap (y.fst.fst + 1) + 1) + 1))
                          (IntKind.i64.wrap (x5 + 1))
else some ((x1, ()), ()) := (turn_eq jw_heldNodeS_ok [1, 0, 1, 0] (by kernel_rfl) _).trans (by kernel_rfl)
theorem Sw_heldNodeS_eq (a0 : List Nod) (a1 : Int) : Sw_heldNodeS a0 a1 =
  Lw_heldNodeS_2 a0 a1 0 := (Eq.trans (by kernel_rfl : Sw_heldNodeS a0 a1 = denK Ew_heldNodeS (Tryz.f74.body.getD .skip) Kw_heldNodeS (slots0 110 [(ty43, Mode.ro), (ty3, Mode.ro)] (a0, a1, ()))) (all_eq jw_heldNodeS_ok _)).trans (by kernel_rfl)
noncomputable def Ew_heldAtomS : Env := mkEnv C tab_w_heldNodeS [0, 1, 2, 3, 5, 12, 14, 15, 21, 23, 24, 30, 32, 33] 42
 (fun k => bif k == 1000002 then some 35 else none)
 (Hints.mk (fun x x_1 => none) (fun s => Nat.testBit 0 s) fun x => []) [(ty78, Mode.ro), (ty3, Mode.ro)]
noncomputable def Kw_heldAtomS := endK C [(ty78, Mode.ro), (ty3, Mode.ro)] [(ty3, 0)] [RV.tmp 4]
noncomputable def Lw_heldAtomS_2 (x0 : List Atm) (x1 : Int) (x5 : Int) : Option ((Int × PUnit) × PUnit) := loopAt Ew_heldAtomS [1, 0, 1, 0] (Tryz.f106.body.getD .skip) Kw_heldAtomS [V.d none 0 ty78 x0, V.d none 0 ty3 x1, V.dead, V.dead, V.dead, V.d none 0 (Ty.int IntKind.i64) x5, V.dead, V.dead,
 V.dead, V.dead, V.dead, V.dead, V.dead, V.dead, V.dead, V.dead, V.dead, V.dead, V.dead, V.dead, V.dead, V.dead, V.dead,
 V.dead, V.dead, V.dead, V.dead, V.dead, V.dead, V.dead, V.dead, V.dead, V.dead, V.dead, V.dead, V.dead, V.dead, V.dead,
 V.dead, V.dead, V.dead, V.dead]
noncomputable def Sw_heldAtomS (a0 : List Atm) (a1 : Int) : Option ((Int × PUnit) × PUnit) := Fw_heldAtomS.sem (a0, a1, ())
def jw_heldAtomS : List (Nat × List Nat) := [(1000002, [1, 0, 1, 0])]
theorem jw_heldAtomS_ok : okB jw_heldAtomS (Tryz.f106.body.getD .skip) [] = true := by kernel_rfl
theorem Lw_heldAtomS_2_eq (x0 : List Atm) (x1 : Int) (x5 : Int) : Lw_heldAtomS_2 x0 x1 x5 =
  bif decide (x5 < (↑x0.length : Int)) then
 (getI x0 x5).bind fun y =>
  (Sw_heldIntS y.fst x1).bind fun y =>
   bif decide (y.fst.fst < 0) then some ((-1, ()), ())
   else
    (getI x0 x5).bind fun y_1 =>
     bif y_1.snd.fst != y.fst.fst then some ((-1, ()), ())
     else
      (getI x0 x5).bind fun y_2 =>
       bif !y_2.snd.snd == ((IntKind.i64.wrap (y.fst.fst + 1)).tmod 3 == 0) then some ((-1, ()), ())
       else Lw_heldAtomS_2 x0 (IntKind.i64.wrap (IntKind.i64.wrap (y.fst.fst + 1) + 1)) (IntKind.i64.wrap (x5 + 1))
else some ((x1, ()), ()) := (turn_eq jw_heldAtomS_ok [1, 0, 1, 0] (by kernel_rfl) _).trans (by kernel_rfl)
theorem Sw_heldAtomS_eq (a0 : List Atm) (a1 : Int) : Sw_heldAtomS a0 a1 =
  Lw_heldAtomS_2 a0 a1 0 := (Eq.trans (by kernel_rfl : Sw_heldAtomS a0 a1 = denK Ew_heldAtomS (Tryz.f106.body.getD .skip) Kw_heldAtomS (slots0 42 [(ty78, Mode.ro), (ty3, Mode.ro)] (a0, a1, ()))) (all_eq jw_heldAtomS_ok _)).trans (by kernel_rfl)
noncomputable def Ew_heldIntSS : Env := mkEnv C tab_w_heldAtomS [0, 1, 2, 3, 5, 12, 14] 21 (fun k => bif k == 1000002 then some 35 else none)
 (Hints.mk (fun x x_1 => none) (fun s => Nat.testBit 0 s) fun x => []) [(ty120, Mode.ro), (ty3, Mode.ro)]
noncomputable def Kw_heldIntSS := endK C [(ty120, Mode.ro), (ty3, Mode.ro)] [(ty3, 0)] [RV.tmp 4]
noncomputable def Lw_heldIntSS_2 (x0 : List (List Int)) (x1 : Int) (x5 : Int) : Option ((Int × PUnit) × PUnit) := loopAt Ew_heldIntSS [1, 0, 1, 0] (Tryz.f124.body.getD .skip) Kw_heldIntSS [V.d none 0 ty120 x0, V.d none 0 ty3 x1, V.dead, V.dead, V.dead, V.d none 0 (Ty.int IntKind.i64) x5, V.dead, V.dead,
 V.dead, V.dead, V.dead, V.dead, V.dead, V.dead, V.dead, V.dead, V.dead, V.dead, V.dead, V.dead, V.dead]
noncomputable def Sw_heldIntSS (a0 : List (List Int)) (a1 : Int) : Option ((Int × PUnit) × PUnit) := Fw_heldIntSS.sem (a0, a1, ())
def jw_heldIntSS : List (Nat × List Nat) := [(1000002, [1, 0, 1, 0])]
theorem jw_heldIntSS_ok : okB jw_heldIntSS (Tryz.f124.body.getD .skip) [] = true := by kernel_rfl
theorem Lw_heldIntSS_2_eq (x0 : List (List Int)) (x1 : Int) (x5 : Int) : Lw_heldIntSS_2 x0 x1 x5 =
  bif decide (x5 < (↑x0.length : Int)) then
 (getI x0 x5).bind fun y =>
  (Sw_heldIntS y x1).bind fun y =>
   bif decide (y.fst.fst < 0) then some ((-1, ()), ()) else Lw_heldIntSS_2 x0 y.fst.fst (IntKind.i64.wrap (x5 + 1))
else some ((x1, ()), ()) := (turn_eq jw_heldIntSS_ok [1, 0, 1, 0] (by kernel_rfl) _).trans (by kernel_rfl)
theorem Sw_heldIntSS_eq (a0 : List (List Int)) (a1 : Int) : Sw_heldIntSS a0 a1 =
  Lw_heldIntSS_2 a0 a1 0 := (Eq.trans (by kernel_rfl : Sw_heldIntSS a0 a1 = denK Ew_heldIntSS (Tryz.f124.body.getD .skip) Kw_heldIntSS (slots0 21 [(ty120, Mode.ro), (ty3, Mode.ro)] (a0, a1, ()))) (all_eq jw_heldIntSS_ok _)).trans (by kernel_rfl)
noncomputable def Ew_heldSupportS : Env := mkEnv C tab_w_heldIntSS [0, 1, 2, 3, 5, 12, 14, 15, 16, 22, 24, 25, 26, 32, 34, 35] 42
 (fun k => bif k == 1000002 then some 35 else none)
 (Hints.mk (fun x x_1 => none) (fun s => Nat.testBit 0 s) fun x => []) [(ty44, Mode.ro), (ty3, Mode.ro)]
noncomputable def Kw_heldSupportS := endK C [(ty44, Mode.ro), (ty3, Mode.ro)] [(ty3, 0)] [RV.tmp 4]
noncomputable def Lw_heldSupportS_2 (x0 : List Sup) (x1 : Int) (x5 : Int) : Option ((Int × PUnit) × PUnit) := loopAt Ew_heldSupportS [1, 0, 1, 0] (Tryz.f75.body.getD .skip) Kw_heldSupportS [V.d none 0 ty44 x0, V.d none 0 ty3 x1, V.dead, V.dead, V.dead, V.d none 0 (Ty.int IntKind.i64) x5, V.dead, V.dead,
 V.dead, V.dead, V.dead, V.dead, V.dead, V.dead, V.dead, V.dead, V.dead, V.dead, V.dead, V.dead, V.dead, V.dead, V.dead,
 V.dead, V.dead, V.dead, V.dead, V.dead, V.dead, V.dead, V.dead, V.dead, V.dead, V.dead, V.dead, V.dead, V.dead, V.dead,
 V.dead, V.dead, V.dead, V.dead]
noncomputable def Sw_heldSupportS (a0 : List Sup) (a1 : Int) : Option ((Int × PUnit) × PUnit) := Fw_heldSupportS.sem (a0, a1, ())
def jw_heldSupportS : List (Nat × List Nat) := [(1000002, [1, 0, 1, 0])]
theorem jw_heldSupportS_ok : okB jw_heldSupportS (Tryz.f75.body.getD .skip) [] = true := by kernel_rfl
theorem Lw_heldSupportS_2_eq (x0 : List Sup) (x1 : Int) (x5 : Int) : Lw_heldSupportS_2 x0 x1 x5 =
  bif decide (x5 < (↑x0.length : Int)) then
 (getI x0 x5).bind fun y =>
  bif y.fst.fst != x1 then some ((-1, ()), ())
  else
   (getI x0 x5).bind fun y =>
    (Sw_heldAtomS y.fst.snd (IntKind.i64.wrap (x1 + 1))).bind fun y =>
     bif decide (y.fst.fst < 0) then some ((-1, ()), ())
     else
      (getI x0 x5).bind fun y_1 =>
       (Sw_heldIntSS y_1.snd y.fst.fst).bind fun y =>
        bif decide (y.fst.fst < 0) then some ((-1, ()), ())
        else Lw_heldSupportS_2 x0 y.fst.fst (IntKind.i64.wrap (x5 + 1))
else some ((x1, ()), ()) := (turn_eq jw_heldSupportS_ok [1, 0, 1, 0] (by kernel_rfl) _).trans (by kernel_rfl)
theorem Sw_heldSupportS_eq (a0 : List Sup) (a1 : Int) : Sw_heldSupportS a0 a1 =
  Lw_heldSupportS_2 a0 a1 0 := (Eq.trans (by kernel_rfl : Sw_heldSupportS a0 a1 = denK Ew_heldSupportS (Tryz.f75.body.getD .skip) Kw_heldSupportS (slots0 42 [(ty44, Mode.ro), (ty3, Mode.ro)] (a0, a1, ()))) (all_eq jw_heldSupportS_ok _)).trans (by kernel_rfl)
noncomputable def Ew_heldView : Env := mkEnv C tab_w_heldSupportS [0, 1, 2, 3, 5, 11] 18 (fun x => none)
 (Hints.mk (fun x x_1 => none) (fun s => Nat.testBit 4 s) fun r => bif r == 2 then [6, 12] else [])
 [(ty46, Mode.ro), (ty3, Mode.ro)]
noncomputable def Kw_heldView := endK C [(ty46, Mode.ro), (ty3, Mode.ro)] [(ty3, 0)] [RV.tmp 4]
noncomputable def Sw_heldView (a0 : Viw) (a1 : Int) : Option ((Int × PUnit) × PUnit) := Fw_heldView.sem (a0, a1, ())
theorem Sw_heldView_eq (a0 : Viw) (a1 : Int) : Sw_heldView a0 a1 =
  (Sw_heldNodeS a0.fst a1).bind fun y =>
 bif decide (y.fst.fst < 0) then some ((-1, ()), ())
 else
  (Sw_heldSupportS a0.snd y.fst.fst).bind fun y =>
   bif decide (y.fst.fst < 0) then some ((-1, ()), ()) else some ((y.fst.fst, ()), ()) := by kernel_rfl
noncomputable def Ew_FnExactViewAfterRemove : Env := mkEnv C tab_w_heldView [0, 1, 2, 3, 4, 5, 6, 7, 9, 10, 11, 12, 13, 14, 15, 16, 17, 18, 19, 20, 31, 45, 102] 129
 (fun k =>
  bif k == 8 then some 301
  else bif k == 10 then some 7469 else bif k == 11 then some 15661 else bif k == 31 then some 150829 else none)
 (Hints.mk
  (fun d i =>
   bif d == 31 then bif i == 0 then some 39 else bif i == 1 then some 40 else none
   else
    bif d == 45 then bif i == 0 then some 51 else bif i == 1 then some 52 else none
    else bif d == 102 then bif i == 0 then some 110 else bif i == 1 then some 111 else none else none)
  (fun s => Nat.testBit 549920 s) fun r =>
  bif r == 5 then [26, 34, 43, 68, 105]
  else
   bif r == 10 then [54, 82, 113]
   else bif r == 13 then [47, 67, 75] else bif r == 14 then [53, 81, 91, 94, 121] else bif r == 19 then [112] else [])
 [(ty36, Mode.ro), (ty40, Mode.ro), (ty3, Mode.ro), (ty3, Mode.ro)]
noncomputable def Kw_FnExactViewAfterRemove := endK C [(ty36, Mode.ro), (ty40, Mode.ro), (ty3, Mode.ro), (ty3, Mode.ro)] [(ty4, 0)] [RV.tmp 8]
noncomputable def Sw_FnExactViewAfterRemove (a0 : List Rel) (a1 : Viw) (a2 : Int) (a3 : Int) : Option ((Bool × PUnit) × PUnit) := Fw_FnExactViewAfterRemove.sem (a0, a1, a2, a3, ())
theorem Sw_FnExactViewAfterRemove_eq (a0 : List Rel) (a1 : Viw) (a2 : Int) (a3 : Int) : Sw_FnExactViewAfterRemove a0 a1 a2 a3 =
  (Sw_szRelationS a0 1048576).bind fun y =>
 bif decide (y.fst.fst < 0) then some ((true, ()), ())
 else
  (Sw_szView a1 y.fst.fst).bind fun y =>
   bif decide (y.fst.fst < 0) then some ((true, ()), ())
   else
    (Sw_toRelationS a0).bind fun y =>
     (Sw_toView a1).bind fun y_1 =>
      (Ss_ViewAfterRemove y.fst.fst y_1.fst.fst a2 a3).bind fun y =>
       (Sw_toRelationS a0).bind fun y_2 =>
        (Sw_toView a1).bind fun y_3 =>
         (Si_ViewAfterRemove y_2.fst.fst y_3.fst.fst a2 a3).bind fun y_4 =>
          (Sw_eqView y_4.fst.fst y.fst.fst).bind fun y_5 =>
           bif !y_5.fst.fst then some ((false, ()), ())
           else
            bif !y_4.fst.snd.fst == y.fst.snd.fst then some ((false, ()), ())
            else
             (Sw_toRelationS a0).bind fun y_6 =>
              (Sw_eqRelationS y_2.fst.fst y_6.fst.fst).bind fun y_7 =>
               bif !y_7.fst.fst then some ((false, ()), ())
               else
                (Sw_toView a1).bind fun y_8 =>
                 (Sw_eqView y_3.fst.fst y_8.fst.fst).bind fun y_9 =>
                  bif !y_9.fst.fst then some ((false, ()), ())
                  else
                   (Sw_markRelationS y_2.fst.fst 1).bind fun y_10 =>
                    (Sw_markView y_3.fst.fst y_10.fst.fst).bind fun y_11 =>
                     bif decide (y_11.fst.fst < 0) then some ((false, ()), ())
                     else
                      (Sw_eqView y_4.fst.fst y.fst.fst).bind fun y_12 =>
                       bif !y_12.fst.fst then some ((false, ()), ())
                       else
                        bif !y_4.fst.snd.fst == y.fst.snd.fst then some ((false, ()), ())
                        else
                         (Sw_markView y_4.fst.fst 1).bind fun y_13 =>
                          (Sw_heldView y_13.snd.fst 1).bind fun y_14 =>
                           bif decide (y_14.fst.fst < 0) then some ((false, ()), ())
                           else
                            bif y_14.fst.fst != y_13.fst.fst then some ((false, ()), ())
                            else
                             (Sw_toRelationS a0).bind fun y_15 =>
                              (Sw_toView a1).bind fun y_16 =>
                               (Si_ViewAfterRemove y_15.fst.fst y_16.fst.fst a2 a3).bind fun y_17 =>
                                (Sw_eqView y_17.fst.fst y.fst.fst).bind fun y_18 =>
                                 bif !y_18.fst.fst then some ((false, ()), ())
                                 else
                                  bif !y_17.fst.snd.fst == y.fst.snd.fst then some ((false, ()), ())
                                  else
                                   (Sw_heldView y_13.snd.fst 1).bind fun y =>
                                    bif decide (y.fst.fst < 0) then some ((false, ()), ())
                                    else
                                     bif y.fst.fst != y_13.fst.fst then some ((false, ()), ())
                                     else some ((true, ()), ()) := by kernel_rfl


end Go.Proofs.YtkanidldnnfloaaGreat.P.It
