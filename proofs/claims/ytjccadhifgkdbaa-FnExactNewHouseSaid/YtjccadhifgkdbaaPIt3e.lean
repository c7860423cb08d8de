/- A part of the proof: It3e. No conditions. -/
import Derived.Test.YtjccadhifgkdbaaPIt2e
import Derived.Test.YtjccadhifgkdbaaPG6
import Derived.Test.YtjccadhifgkdbaaChecked
import Derived.KernelRfl
set_option linter.unusedVariables false
set_option maxRecDepth 100000
namespace Go.Proofs.Ytjccadhifgkdbaa.P.It
open Am
noncomputable def Ei_isWord : Env := mkEnv C tab_s_NewHouse [0, 1, 2, 3, 4, 5, 7] 34 (fun k => bif k == 1000004 then some 135 else none)
 (Hints.mk (fun x x_1 => none) (fun s => Nat.testBit 0 s) fun x => []) [(ty9, Mode.ro), (ty5, Mode.ro), (ty5, Mode.ro)]
noncomputable def Ki_isWord := endK C [(ty9, Mode.ro), (ty5, Mode.ro), (ty5, Mode.ro)] [(ty4, 0)] [RV.tmp 6]
noncomputable def Li_isWord_4 (x0 : ByteArray) (x1 : Int) (x2 : Int) (x7 : Int) : Option ((Bool × PUnit) × PUnit) := loopAt Ei_isWord [1, 1, 0, 1, 0] (Try.f127.body.getD .skip) Ki_isWord [V.d none 0 ty9 x0, V.d none 0 ty5 x1, V.d none 0 ty5 x2, V.dead, V.dead, V.dead, V.dead,
 V.d none 0 (Ty.int IntKind.i64) x7, V.dead, V.dead, V.dead, V.dead, V.dead, V.dead, V.dead, V.dead, V.dead, V.dead,
 V.dead, V.dead, V.dead, V.dead, V.dead, V.dead, V.dead, V.dead, V.dead, V.dead, V.dead, V.dead, V.dead, V.dead, V.dead,
 V.dead]
noncomputable def Si_isWord (a0 : ByteArray) (a1 : Int) (a2 : Int) : Option ((Bool × PUnit) × PUnit) := Fi_isWord.sem (a0, a1, a2, ())
def ji_isWord : List (Nat × List Nat) := [(1000004, [1, 1, 0, 1, 0])]
theorem ji_isWord_ok : okB ji_isWord (Try.f127.body.getD .skip) [] = true := by kernel_rfl
theorem Li_isWord_4_eq (x0 : ByteArray) (x1 : Int) (x2 : Int) (x7 : Int) : Li_isWord_4 x0 x1 x2 x7 =
  bif decide (x7 < (↑x0.size : Int)) then
 (getB x0 x7).bind fun y =>
  bif decide (y < x1) then some ((false, ()), ())
  else
   (getB x0 x7).bind fun y =>
    bif decide (y > x2) then some ((false, ()), ()) else Li_isWord_4 x0 x1 x2 (IntKind.i64.wrap (x7 + 1))
else some ((true, ()), ()) := (turn_eq ji_isWord_ok [1, 1, 0, 1, 0] (by kernel_rfl) _).trans (by kernel_rfl)
theorem Si_isWord_eq (a0 : ByteArray) (a1 : Int) (a2 : Int) : Si_isWord a0 a1 a2 =
  bif decide ((↑a0.size : Int) < 1) then some ((false, ()), ())
else bif decide ((↑a0.size : Int) > 6) then some ((false, ()), ()) else Li_isWord_4 a0 a1 a2 0 := (Eq.trans (by kernel_rfl : Si_isWord a0 a1 a2 = denK Ei_isWord (Try.f127.body.getD .skip) Ki_isWord (slots0 34 [(ty9, Mode.ro), (ty5, Mode.ro), (ty5, Mode.ro)] (a0, a1, a2, ()))) (all_eq ji_isWord_ok _)).trans (by kernel_rfl)
noncomputable def Ei_isName : Env := mkEnv C tab_i_isWord [0, 1] 5 (fun x => none) (Hints.mk (fun x x_1 => none) (fun s => Nat.testBit 0 s) fun x => [])
 [(ty9, Mode.ro)]
noncomputable def Ki_isName := endK C [(ty9, Mode.ro)] [(ty4, 0)] [RV.tmp 2]
noncomputable def Si_isName (a0 : ByteArray) : Option ((Bool × PUnit) × PUnit) := Fi_isName.sem (a0, ())
theorem Si_isName_eq (a0 : ByteArray) : Si_isName a0 =
  (Si_isWord a0 65 90).bind fun y => some ((y.fst.fst, ()), ()) := by kernel_rfl
noncomputable def Ei_isLabel : Env := mkEnv C tab_i_isName [0, 1] 5 (fun x => none) (Hints.mk (fun x x_1 => none) (fun s => Nat.testBit 0 s) fun x => [])
 [(ty9, Mode.ro)]
noncomputable def Ki_isLabel := endK C [(ty9, Mode.ro)] [(ty4, 0)] [RV.tmp 2]
noncomputable def Si_isLabel (a0 : ByteArray) : Option ((Bool × PUnit) × PUnit) := Fi_isLabel.sem (a0, ())
theorem Si_isLabel_eq (a0 : ByteArray) : Si_isLabel a0 =
  (Si_isWord a0 97 122).bind fun y => some ((y.fst.fst, ()), ()) := by kernel_rfl
noncomputable def Ei_IsNumber : Env := mkEnv C tab_i_isLabel [0, 1] 9 (fun x => none) (Hints.mk (fun x x_1 => none) (fun s => Nat.testBit 0 s) fun x => [])
 [(ty3, Mode.ro)]
noncomputable def Ki_IsNumber := endK C [(ty3, Mode.ro)] [(ty4, 0)] [RV.tmp 2]
noncomputable def Si_IsNumber (a0 : Int) : Option ((Bool × PUnit) × PUnit) := Fi_IsNumber.sem (a0, ())
theorem Si_IsNumber_eq (a0 : Int) : Si_IsNumber a0 =
  bif decide (a0 ≥ -400000000) then some ((decide (a0 ≤ 400000000), ()), ()) else some ((false, ()), ()) := by kernel_rfl
noncomputable def Ei_absolute : Env := mkEnv C tab_i_IsNumber [0, 1] 8 (fun x => none) (Hints.mk (fun x x_1 => none) (fun s => Nat.testBit 0 s) fun x => [])
 [(ty3, Mode.ro)]
noncomputable def Ki_absolute := endK C [(ty3, Mode.ro)] [(ty3, 0)] [RV.tmp 2]
noncomputable def Si_absolute (a0 : Int) : Option ((Int × PUnit) × PUnit) := Fi_absolute.sem (a0, ())
theorem Si_absolute_eq (a0 : Int) : Si_absolute a0 =
  bif decide (a0 < 0) then some ((IntKind.i64.wrap (0 - a0), ()), ()) else some ((a0, ()), ()) := by kernel_rfl
noncomputable def Ei_commonDivisor : Env := mkEnv C tab_i_absolute [0, 1, 2, 3] 16 (fun k => bif k == 1000002 then some 3 else none)
 (Hints.mk (fun x x_1 => none) (fun s => Nat.testBit 0 s) fun x => []) [(ty3, Mode.ro), (ty3, Mode.ro)]
noncomputable def Ki_commonDivisor := endK C [(ty3, Mode.ro), (ty3, Mode.ro)] [(ty3, 0)] [RV.tmp 4]
noncomputable def Li_commonDivisor_2 (x0 : Int) (x1 : Int) : Option ((Int × PUnit) × PUnit) := loopAt Ei_commonDivisor [1, 1, 0, 0] (Try.f124.body.getD .skip) Ki_commonDivisor [V.d none 0 ty3 x0, V.d none 0 ty3 x1, V.dead, V.dead, V.dead, V.dead, V.dead, V.dead, V.dead, V.dead, V.dead, V.dead,
 V.dead, V.dead, V.dead, V.dead]
noncomputable def Si_commonDivisor (a0 : Int) (a1 : Int) : Option ((Int × PUnit) × PUnit) := Fi_commonDivisor.sem (a0, a1, ())
def ji_commonDivisor : List (Nat × List Nat) := [(1000002, [1, 1, 0, 0])]
theorem ji_commonDivisor_ok : okB ji_commonDivisor (Try.f124.body.getD .skip) [] = true := by kernel_rfl
theorem Li_commonDivisor_2_eq (x0 : Int) (x1 : Int) : Li_commonDivisor_2 x0 x1 =
  bif x1 != 0 then bif x1 != 0 then Li_commonDivisor_2 x1 (x0.tmod x1) else none else some ((x0, ()), ()) := (turn_eq ji_commonDivisor_ok [1, 1, 0, 0] (by kernel_rfl) _).trans (by kernel_rfl)
theorem Si_commonDivisor_eq (a0 : Int) (a1 : Int) : Si_commonDivisor a0 a1 =
  (Si_absolute a0).bind fun y => (Si_absolute a1).bind fun y_1 => Li_commonDivisor_2 y.fst.fst y_1.fst.fst := (Eq.trans (by kernel_rfl : Si_commonDivisor a0 a1 = denK Ei_commonDivisor (Try.f124.body.getD .skip) Ki_commonDivisor (slots0 16 [(ty3, Mode.ro), (ty3, Mode.ro)] (a0, a1, ()))) (all_eq ji_commonDivisor_ok _)).trans (by kernel_rfl)
noncomputable def Ei_divisorOf : Env := mkEnv C tab_i_commonDivisor [0, 1, 3, 4, 5, 6, 10] 17 (fun k => bif k == 1000003 then some 457 else none)
 (Hints.mk (fun x x_1 => none) (fun s => Nat.testBit 0 s) fun x => []) [(ty23, Mode.ro)]
noncomputable def Ki_divisorOf := endK C [(ty23, Mode.ro)] [(ty3, 0)] [RV.tmp 2]
noncomputable def Li_divisorOf_3 (x0 : List Int) (x3 : Int) (x6 : List Int) (x7 : Int) (x8 : Int) : Option ((Int × PUnit) × PUnit) := loopAt Ei_divisorOf [1, 1, 0, 1, 0] (Try.f125.body.getD .skip) Ki_divisorOf [V.d none 0 ty23 x0, V.dead, V.dead, V.d none 0 (Ty.int IntKind.i64) x3, V.dead, V.dead, V.d none 0 ty23 x6,
 V.d none 0 (Ty.int IntKind.i64) x7, V.d none 0 (Ty.int IntKind.i64) x8, V.dead, V.dead, V.dead, V.dead, V.dead, V.dead,
 V.dead, V.dead]
noncomputable def Si_divisorOf (a0 : List Int) : Option ((Int × PUnit) × PUnit) := Fi_divisorOf.sem (a0, ())
def ji_divisorOf : List (Nat × List Nat) := [(1000003, [1, 1, 0, 1, 0])]
theorem ji_divisorOf_ok : okB ji_divisorOf (Try.f125.body.getD .skip) [] = true := by kernel_rfl
theorem Li_divisorOf_3_eq (x0 : List Int) (x3 : Int) (x6 : List Int) (x7 : Int) (x8 : Int) : Li_divisorOf_3 x0 x3 x6 x7 x8 =
  bif decide (x8 < x7) then
 (getI x6 x8).bind fun y =>
  (Si_commonDivisor x3 y).bind fun y => Li_divisorOf_3 x0 y.fst.fst x6 x7 (IntKind.i64.wrap (x8 + 1))
else some ((x3, ()), ()) := (turn_eq ji_divisorOf_ok [1, 1, 0, 1, 0] (by kernel_rfl) _).trans (by kernel_rfl)
theorem Si_divisorOf_eq (a0 : List Int) : Si_divisorOf a0 =
  Li_divisorOf_3 a0 0 a0 (↑a0.length : Int) 0 := (Eq.trans (by kernel_rfl : Si_divisorOf a0 = denK Ei_divisorOf (Try.f125.body.getD .skip) Ki_divisorOf (slots0 17 [(ty23, Mode.ro)] (a0, ()))) (all_eq ji_divisorOf_ok _)).trans (by kernel_rfl)
noncomputable def Ei_IsAtom : Env := mkEnv C tab_i_divisorOf [0, 1, 3, 4, 5, 10, 15, 16, 20, 26, 29] 33
 (fun k => bif k == 1 then some 6 else bif k == 3 then some 6 else bif k == 1000004 then some 491522 else none)
 (Hints.mk (fun x x_1 => none) (fun s => Nat.testBit 2 s) fun r => bif r == 1 then [6, 16, 20, 27] else [])
 [(ty88, Mode.ro)]
noncomputable def Ki_IsAtom := endK C [(ty88, Mode.ro)] [(ty4, 0)] [RV.tmp 2]
noncomputable def Li_IsAtom_4 (x1 : Atm) (x16 : List Int) (x17 : Int) (x18 : Int) : Option ((Bool × PUnit) × PUnit) := loopAt Ei_IsAtom [1, 1, 0, 1, 0] (Try.f101.body.getD .skip) Ki_IsAtom [V.dead, V.box none 0 ty88 x1, V.dead, V.dead, V.dead, V.dead, V.dead, V.dead, V.dead, V.dead, V.dead, V.dead, V.dead,
 V.dead, V.dead, V.ptr 1 [St.fld 0 0] ty23, V.d none 0 ty23 x16, V.d none 0 (Ty.int IntKind.i64) x17,
 V.d none 0 (Ty.int IntKind.i64) x18, V.dead, V.dead, V.dead, V.dead, V.dead, V.dead, V.dead, V.dead, V.dead, V.dead,
 V.dead, V.dead, V.dead, V.dead]
noncomputable def Si_IsAtom (a0 : Atm) : Option ((Bool × PUnit) × PUnit) := Fi_IsAtom.sem (a0, ())
def ji_IsAtom : List (Nat × List Nat) := [(1000004, [1, 1, 0, 1, 0])]
theorem ji_IsAtom_ok : okB ji_IsAtom (Try.f101.body.getD .skip) [] = true := by kernel_rfl
theorem Li_IsAtom_4_eq (x1 : Atm) (x16 : List Int) (x17 : Int) (x18 : Int) : Li_IsAtom_4 x1 x16 x17 x18 =
  bif decide (x18 < x17) then
 (getI x16 x18).bind fun y =>
  (Si_IsNumber y).bind fun y =>
   bif !y.fst.fst then some ((false, ()), ()) else Li_IsAtom_4 x1 x16 x17 (IntKind.i64.wrap (x18 + 1))
else
 (Si_divisorOf x1.fst).bind fun y =>
  (Si_commonDivisor y.fst.fst x1.snd.fst).bind fun y => some ((decide (y.fst.fst ≤ 1), ()), ()) := (turn_eq ji_IsAtom_ok [1, 1, 0, 1, 0] (by kernel_rfl) _).trans (by kernel_rfl)
theorem Si_IsAtom_eq (a0 : Atm) : Si_IsAtom a0 =
  bif decide ((↑(List.length a0.fst) : Int) > 4) then some ((false, ()), ())
else
 (Si_IsNumber a0.snd.fst).bind fun y =>
  bif !y.fst.fst then some ((false, ()), ()) else Li_IsAtom_4 a0 a0.fst (↑(List.length a0.fst) : Int) 0 := (Eq.trans (by kernel_rfl : Si_IsAtom a0 = denK Ei_IsAtom (Try.f101.body.getD .skip) Ki_IsAtom (slots0 33 [(ty88, Mode.ro)] (a0, ()))) (all_eq ji_IsAtom_ok _)).trans (by kernel_rfl)
noncomputable def Ei_IsCell : Env := mkEnv C tab_i_IsAtom [0, 1, 3, 4, 5, 9, 14, 19, 20, 24, 30, 33] 38
 (fun k =>
  bif k == 1 then some 6
  else
   bif k == 3 then some 6
   else
    bif k == 5 then some 7864326 else bif k == 6 then some 7864342 else bif k == 1000004 then some 7864322 else none)
 (Hints.mk (fun x x_1 => none) (fun s => Nat.testBit 18 s) fun r =>
  bif r == 1 then [15, 20, 24, 25] else bif r == 4 then [26, 31] else [])
 [(ty104, Mode.ro)]
noncomputable def Ki_IsCell := endK C [(ty104, Mode.ro)] [(ty4, 0)] [RV.tmp 2]
noncomputable def Li_IsCell_4 (x1 : Int × List Atm) (x20 : List Atm) (x21 : Int) (x22 : Int) : Option ((Bool × PUnit) × PUnit) := loopAt Ei_IsCell [1, 1, 0, 1, 0] (Try.f70.body.getD .skip) Ki_IsCell [V.dead, V.box none 0 ty104 x1, V.dead, V.dead, V.dead, V.dead, V.dead, V.dead, V.dead, V.dead, V.dead, V.dead, V.dead,
 V.dead, V.dead, V.dead, V.dead, V.dead, V.dead, V.ptr 1 [St.fld 1 (ty3.sz + 0)] ty102,
 V.d none 0 (Ty.slice 88 ty88) x20, V.d none 0 (Ty.int IntKind.i64) x21, V.d none 0 (Ty.int IntKind.i64) x22, V.dead,
 V.dead, V.dead, V.dead, V.dead, V.dead, V.dead, V.dead, V.dead, V.dead, V.dead, V.dead, V.dead, V.dead, V.dead]
noncomputable def Si_IsCell (a0 : Int × List Atm) : Option ((Bool × PUnit) × PUnit) := Fi_IsCell.sem (a0, ())
def ji_IsCell : List (Nat × List Nat) := [(1000004, [1, 1, 0, 1, 0])]
theorem ji_IsCell_ok : okB ji_IsCell (Try.f70.body.getD .skip) [] = true := by kernel_rfl
theorem Li_IsCell_4_eq (x1 : Int × List Atm) (x20 : List Atm) (x21 : Int) (x22 : Int) : Li_IsCell_4 x1 x20 x21 x22 =
  bif decide (x22 < x21) then
 (getI x20 x22).bind fun y =>
  (Si_IsAtom y).bind fun y_1 =>
   bif !y_1.fst.fst then some ((false, ()), ())
   else
    bif (↑(List.length y.fst) : Int) != x1.fst then some ((false, ()), ())
    else Li_IsCell_4 x1 x20 x21 (IntKind.i64.wrap (x22 + 1))
else some ((true, ()), ()) := (turn_eq ji_IsCell_ok [1, 1, 0, 1, 0] (by kernel_rfl) _).trans (by kernel_rfl)
theorem Si_IsCell_eq (a0 : Int × List Atm) : Si_IsCell a0 =
  bif decide (a0.fst < 0) then some ((false, ()), ())
else
 bif decide (a0.fst > 4) then some ((false, ()), ())
 else
  bif decide ((↑(List.length a0.snd) : Int) > 16) then some ((false, ()), ())
  else Li_IsCell_4 a0 a0.snd (↑(List.length a0.snd) : Int) 0 := (Eq.trans (by kernel_rfl : Si_IsCell a0 = denK Ei_IsCell (Try.f70.body.getD .skip) Ki_IsCell (slots0 38 [(ty104, Mode.ro)] (a0, ()))) (all_eq ji_IsCell_ok _)).trans (by kernel_rfl)
noncomputable def Ei_IsRelation : Env := mkEnv C tab_i_IsCell [0, 1, 3, 4, 5, 10, 15, 20, 25, 26, 30, 32, 37, 43, 44, 46] 51
 (fun k =>
  bif k == 1 then some 6
  else bif k == 3 then some 6 else bif k == 5 then some 503316486 else bif k == 1000004 then some 503316482 else none)
 (Hints.mk (fun x x_1 => none) (fun s => Nat.testBit 18 s) fun r =>
  bif r == 1 then [21, 26, 30, 31] else bif r == 4 then [38] else [])
 [(ty72, Mode.ro)]
noncomputable def Ki_IsRelation := endK C [(ty72, Mode.ro)] [(ty4, 0)] [RV.tmp 2]
noncomputable def Li_IsRelation_4 (x1 : ByteArray × Int × List Rw) (x26 : List Rw) (x27 : Int) (x28 : Int) : Option ((Bool × PUnit) × PUnit) := loopAt Ei_IsRelation [1, 1, 0, 1, 0] (Try.f75.body.getD .skip) Ki_IsRelation [V.dead, V.box none 0 ty72 x1, V.dead, V.dead, V.dead, V.dead, V.dead, V.dead, V.dead, V.dead, V.dead, V.dead, V.dead,
 V.dead, V.dead, V.dead, V.dead, V.dead, V.dead, V.dead, V.dead, V.dead, V.dead, V.dead, V.dead,
 V.ptr 1 [St.fld 2 (ty9.sz + (ty3.sz + 0))] ty70, V.d none 0 (Ty.slice 146 ty146) x26,
 V.d none 0 (Ty.int IntKind.i64) x27, V.d none 0 (Ty.int IntKind.i64) x28, V.dead, V.dead, V.dead, V.dead, V.dead,
 V.dead, V.dead, V.dead, V.dead, V.dead, V.dead, V.dead, V.dead, V.dead, V.dead, V.dead, V.dead, V.dead, V.dead, V.dead,
 V.dead, V.dead]
noncomputable def Si_IsRelation (a0 : ByteArray × Int × List Rw) : Option ((Bool × PUnit) × PUnit) := Fi_IsRelation.sem (a0, ())
def ji_IsRelation : List (Nat × List Nat) := [(1000004, [1, 1, 0, 1, 0])]
theorem ji_IsRelation_ok : okB ji_IsRelation (Try.f75.body.getD .skip) [] = true := by kernel_rfl
theorem Li_IsRelation_4_eq (x1 : ByteArray × Int × List Rw) (x26 : List Rw) (x27 : Int) (x28 : Int) : Li_IsRelation_4 x1 x26 x27 x28 =
  bif decide (x28 < x27) then
 (getI x26 x28).bind fun y =>
  (Si_isLabel y.fst).bind fun y_1 =>
   bif !y_1.fst.fst then some ((false, ()), ())
   else
    (Si_IsCell y.snd).bind fun y_2 =>
     bif !y_2.fst.fst then some ((false, ()), ())
     else
      bif y.snd.fst != x1.snd.fst then some ((false, ()), ())
      else Li_IsRelation_4 x1 x26 x27 (IntKind.i64.wrap (x28 + 1))
else some ((true, ()), ()) := (turn_eq ji_IsRelation_ok [1, 1, 0, 1, 0] (by kernel_rfl) _).trans (by kernel_rfl)
theorem Si_IsRelation_eq (a0 : ByteArray × Int × List Rw) : Si_IsRelation a0 =
  (Si_isName a0.fst).bind fun y =>
 bif !y.fst.fst then some ((false, ()), ())
 else
  bif decide (a0.snd.fst < 0) then some ((false, ()), ())
  else
   bif decide (a0.snd.fst > 4) then some ((false, ()), ())
   else
    bif decide ((↑(List.length a0.snd.snd) : Int) > 8) then some ((false, ()), ())
    else Li_IsRelation_4 a0 a0.snd.snd (↑(List.length a0.snd.snd) : Int) 0 := (Eq.trans (by kernel_rfl : Si_IsRelation a0 = denK Ei_IsRelation (Try.f75.body.getD .skip) Ki_IsRelation (slots0 51 [(ty72, Mode.ro)] (a0, ()))) (all_eq ji_IsRelation_ok _)).trans (by kernel_rfl)
noncomputable def Ei_FindRelation : Env := mkEnv C tab_i_IsRelation [0, 1, 2, 3, 5, 6, 7, 12, 14] 20
 (fun k => bif k == 1 then some 19 else bif k == 3 then some 915 else bif k == 1000002 then some 899 else none)
 (Hints.mk (fun x x_1 => none) (fun s => Nat.testBit 64 s) fun r => bif r == 6 then [] else [])
 [(ty44, Mode.ro), (ty9, Mode.ro)]
noncomputable def Ki_FindRelation := endK C [(ty44, Mode.ro), (ty9, Mode.ro)] [(ty3, 0)] [RV.tmp 4]
noncomputable def Li_FindRelation_2 (x0 : List Rel) (x1 : ByteArray) (x7 : List Rel) (x8 : Int) (x9 : Int) : Option ((Int × PUnit) × PUnit) := loopAt Ei_FindRelation [1, 0, 1, 0] (Try.f76.body.getD .skip) Ki_FindRelation [V.d none 0 ty44 x0, V.d none 0 ty9 x1, V.dead, V.dead, V.dead, V.dead, V.dead, V.d none 0 ty44 x7,
 V.d none 0 (Ty.int IntKind.i64) x8, V.d none 0 (Ty.int IntKind.i64) x9, V.dead, V.dead, V.dead, V.dead, V.dead, V.dead,
 V.dead, V.dead, V.dead, V.dead]
noncomputable def Si_FindRelation (a0 : List Rel) (a1 : ByteArray) : Option ((Int × PUnit) × PUnit) := Fi_FindRelation.sem (a0, a1, ())
def ji_FindRelation : List (Nat × List Nat) := [(1000002, [1, 0, 1, 0])]
theorem ji_FindRelation_ok : okB ji_FindRelation (Try.f76.body.getD .skip) [] = true := by kernel_rfl
theorem Li_FindRelation_2_eq (x0 : List Rel) (x1 : ByteArray) (x7 : List Rel) (x8 : Int) (x9 : Int) : Li_FindRelation_2 x0 x1 x7 x8 x9 =
  bif decide (x9 < x8) then
 (getI x7 x9).bind fun y =>
  bif ByteArray.toList y.fst == x1.toList then some ((x9, ()), ())
  else Li_FindRelation_2 x0 x1 x7 x8 (IntKind.i64.wrap (x9 + 1))
else some ((-1, ()), ()) := (turn_eq ji_FindRelation_ok [1, 0, 1, 0] (by kernel_rfl) _).trans (by kernel_rfl)
theorem Si_FindRelation_eq (a0 : List Rel) (a1 : ByteArray) : Si_FindRelation a0 a1 =
  Li_FindRelation_2 a0 a1 a0 (↑a0.length : Int) 0 := (Eq.trans (by kernel_rfl : Si_FindRelation a0 a1 = denK Ei_FindRelation (Try.f76.body.getD .skip) Ki_FindRelation (slots0 20 [(ty44, Mode.ro), (ty9, Mode.ro)] (a0, a1, ()))) (all_eq ji_FindRelation_ok _)).trans (by kernel_rfl)
noncomputable def Ei_IsDatabase : Env := mkEnv C tab_i_FindRelation [0, 1, 3, 4, 8, 13, 20] 27
 (fun k =>
  bif k == 1 then some 5
  else bif k == 3 then some 5 else bif k == 5 then some 1797 else bif k == 1000004 then some 1793 else none)
 (Hints.mk (fun x x_1 => none) (fun s => Nat.testBit 16 s) fun r => bif r == 4 then [15] else []) [(ty44, Mode.ro)]
noncomputable def Ki_IsDatabase := endK C [(ty44, Mode.ro)] [(ty4, 0)] [RV.tmp 2]
noncomputable def Li_IsDatabase_4 (x0 : List Rel) (x8 : List Rel) (x9 : Int) (x10 : Int) : Option ((Bool × PUnit) × PUnit) := loopAt Ei_IsDatabase [1, 1, 0, 1, 0] (Try.f41.body.getD .skip) Ki_IsDatabase [V.d none 0 ty44 x0, V.dead, V.dead, V.dead, V.dead, V.dead, V.dead, V.dead, V.d none 0 ty44 x8,
 V.d none 0 (Ty.int IntKind.i64) x9, V.d none 0 (Ty.int IntKind.i64) x10, V.dead, V.dead, V.dead, V.dead, V.dead,
 V.dead, V.dead, V.dead, V.dead, V.dead, V.dead, V.dead, V.dead, V.dead, V.dead, V.dead]
noncomputable def Si_IsDatabase (a0 : List Rel) : Option ((Bool × PUnit) × PUnit) := Fi_IsDatabase.sem (a0, ())
def ji_IsDatabase : List (Nat × List Nat) := [(1000004, [1, 1, 0, 1, 0])]
theorem ji_IsDatabase_ok : okB ji_IsDatabase (Try.f41.body.getD .skip) [] = true := by kernel_rfl
theorem Li_IsDatabase_4_eq (x0 : List Rel) (x8 : List Rel) (x9 : Int) (x10 : Int) : Li_IsDatabase_4 x0 x8 x9 x10 =
  bif decide (x10 < x9) then
 (getI x8 x10).bind fun y =>
  (Si_IsRelation y).bind fun y_1 =>
   bif !y_1.fst.fst then some ((false, ()), ())
   else
    (Si_FindRelation x0 y.fst).bind fun y =>
     bif y.fst.fst != x10 then some ((false, ()), ()) else Li_IsDatabase_4 x0 x8 x9 (IntKind.i64.wrap (x10 + 1))
else some ((true, ()), ()) := (turn_eq ji_IsDatabase_ok [1, 1, 0, 1, 0] (by kernel_rfl) _).trans (by kernel_rfl)
theorem Si_IsDatabase_eq (a0 : List Rel) : Si_IsDatabase a0 =
  bif decide ((↑a0.length : Int) > 6) then some ((false, ()), ()) else Li_IsDatabase_4 a0 a0 (↑a0.length : Int) 0 := (Eq.trans (by kernel_rfl : Si_IsDatabase a0 = denK Ei_IsDatabase (Try.f41.body.getD .skip) Ki_IsDatabase (slots0 27 [(ty44, Mode.ro)] (a0, ()))) (all_eq ji_IsDatabase_ok _)).trans (by kernel_rfl)
noncomputable def Ei_NewStore : Env := mkEnv C tab_i_IsDatabase [0, 1, 2, 3, 4, 6, 7, 8, 16, 21, 25, 27] 41
 (fun k =>
  bif k == 1 then some 51
  else
   bif k == 2 then some 48
   else
    bif k == 3 then some 51
    else
     bif k == 4 then some 115
     else
      bif k == 7 then some 459251
      else bif k == 10 then some 48 else bif k == 11 then some 112 else bif k == 1000005 then some 458835 else none)
 (Hints.mk (fun x x_1 => none) (fun s => Nat.testBit 16 s) fun r => bif r == 4 then [] else [])
 [(ty22, Mode.ro), (ty23, Mode.ro)]
noncomputable def Ki_NewStore := endK C [(ty22, Mode.ro), (ty23, Mode.ro)] [(ty28, 5), (ty4, 0)] [RV.cell 4 28, RV.tmp 5]
noncomputable def Li_NewStore_5 (x0 : List ByteArray) (x1 : List Int) (x4 : Sto) (x6 : List Rel) (x16 : List ByteArray) (x17 : Int) (x18 : Int) : Option ((Sto ×
  Bool × PUnit) ×
 PUnit) := loopAt Ei_NewStore [1, 1, 1, 0, 1, 0] (Try.f12.body.getD .skip) Ki_NewStore [V.d none 0 ty22 x0, V.d none 0 ty23 x1, V.dead, V.dead, V.box none ty28.depth ty28 x4, V.dead,
 V.d none (ty72.depth + 1) (Ty.slice 72 ty72) x6, V.dead, V.dead, V.dead, V.dead, V.dead, V.dead, V.dead, V.dead,
 V.dead, V.d none 0 ty22 x16, V.d none 0 (Ty.int IntKind.i64) x17, V.d none 0 (Ty.int IntKind.i64) x18, V.dead, V.dead,
 V.dead, V.dead, V.dead, V.dead, V.dead, V.dead, V.dead, V.dead, V.dead, V.dead, V.dead, V.dead, V.dead, V.dead, V.dead,
 V.dead, V.dead, V.dead, V.dead, V.dead]
noncomputable def Si_NewStore (a0 : List ByteArray) (a1 : List Int) : Option ((Sto ×
  Bool × PUnit) ×
 PUnit) := Fi_NewStore.sem (a0, a1, ())
def ji_NewStore : List (Nat × List Nat) := [(1000005, [1, 1, 1, 0, 1, 0])]
theorem ji_NewStore_ok : okB ji_NewStore (Try.f12.body.getD .skip) [] = true := by kernel_rfl
theorem Li_NewStore_5_eq (x0 : List ByteArray) (x1 : List Int) (x4 : Sto) (x6 : List Rel) (x16 : List ByteArray) (x17 : Int) (x18 : Int) : Li_NewStore_5 x0 x1 x4 x6 x16 x17 x18 =
  bif decide (x18 < x17) then
 (getI x16 x18).bind fun y =>
  (getI x1 x18).bind fun y_1 =>
   bif decide ((x6.length + 1) * 48 ≤ 140737488355328) then
    Li_NewStore_5 x0 x1 x4 (x6 ++ [(y, y_1, [])]) x16 x17 (IntKind.i64.wrap (x18 + 1))
   else none
else
 (Si_IsDatabase x6).bind fun y =>
  bif !y.fst.fst then some ((([], []), false, ()), ()) else some ((([], [x6]), true, ()), ()) := (turn_eq ji_NewStore_ok [1, 1, 1, 0, 1, 0] (by kernel_rfl) _).trans (by kernel_rfl)
theorem Si_NewStore_eq (a0 : List ByteArray) (a1 : List Int) : Si_NewStore a0 a1 =
  bif (↑a0.length : Int) != (↑a1.length : Int) then some ((([], []), false, ()), ())
else Li_NewStore_5 a0 a1 ([], []) [] a0 (↑a0.length : Int) 0 := (Eq.trans (by kernel_rfl : Si_NewStore a0 a1 = denK Ei_NewStore (Try.f12.body.getD .skip) Ki_NewStore (slots0 41 [(ty22, Mode.ro), (ty23, Mode.ro)] (a0, a1, ()))) (all_eq ji_NewStore_ok _)).trans (by kernel_rfl)
noncomputable def Ew_eqIntS : Env := mkEnv C tab_i_NewHouse [0, 1, 2, 3, 5, 17, 19, 21, 23] 26 (fun k => bif k == 1000004 then some 35 else none)
 (Hints.mk (fun x x_1 => none) (fun s => Nat.testBit 0 s) fun x => []) [(ty23, Mode.ro), (ty23, Mode.ro)]
noncomputable def Kw_eqIntS := endK C [(ty23, Mode.ro), (ty23, Mode.ro)] [(ty4, 0)] [RV.tmp 4]
noncomputable def Lw_eqIntS_4 (x0 : List Int) (x1 : List Int) (x5 : Int) : Option ((Bool × PUnit) × PUnit) := loopAt Ew_eqIntS [1, 1, 0, 1, 0] (Try.f15.body.getD .skip) Kw_eqIntS [V.d none 0 ty23 x0, V.d none 0 ty23 x1, V.dead, V.dead, V.dead, V.d none 0 (Ty.int IntKind.i64) x5, V.dead, V.dead,
 V.dead, V.dead, V.dead, V.dead, V.dead, V.dead, V.dead, V.dead, V.dead, V.dead, V.dead, V.dead, V.dead, V.dead, V.dead,
 V.dead, V.dead, V.dead]
noncomputable def Sw_eqIntS (a0 : List Int) (a1 : List Int) : Option ((Bool × PUnit) × PUnit) := Fw_eqIntS.sem (a0, a1, ())
def jw_eqIntS : List (Nat × List Nat) := [(1000004, [1, 1, 0, 1, 0])]
theorem jw_eqIntS_ok : okB jw_eqIntS (Try.f15.body.getD .skip) [] = true := by kernel_rfl
theorem Lw_eqIntS_4_eq (x0 : List Int) (x1 : List Int) (x5 : Int) : Lw_eqIntS_4 x0 x1 x5 =
  bif decide (x5 < (↑x0.length : Int)) then
 (getI x0 x5).bind fun y =>
  (getI x1 x5).bind fun y_1 =>
   bif y != y_1 then some ((false, ()), ()) else Lw_eqIntS_4 x0 x1 (IntKind.i64.wrap (x5 + 1))
else some ((true, ()), ()) := (turn_eq jw_eqIntS_ok [1, 1, 0, 1, 0] (by kernel_rfl) _).trans (by kernel_rfl)
theorem Sw_eqIntS_eq (a0 : List Int) (a1 : List Int) : Sw_eqIntS a0 a1 =
  bif (↑a0.length : Int) != (↑a1.length : Int) then some ((false, ()), ()) else Lw_eqIntS_4 a0 a1 0 := (Eq.trans (by kernel_rfl : Sw_eqIntS a0 a1 = denK Ew_eqIntS (Try.f15.body.getD .skip) Kw_eqIntS (slots0 26 [(ty23, Mode.ro), (ty23, Mode.ro)] (a0, a1, ()))) (all_eq jw_eqIntS_ok _)).trans (by kernel_rfl)
noncomputable def Ew_eqAtom : Env := mkEnv C tab_w_eqIntS [0, 1, 2, 3, 5, 7, 11, 13, 16, 18] 21 (fun x => none)
 (Hints.mk (fun x x_1 => none) (fun s => Nat.testBit 12 s) fun r =>
  bif r == 2 then [6] else bif r == 3 then [8] else [])
 [(ty88, Mode.ro), (ty88, Mode.ro)]
noncomputable def Kw_eqAtom := endK C [(ty88, Mode.ro), (ty88, Mode.ro)] [(ty4, 0)] [RV.tmp 4]
noncomputable def Sw_eqAtom (a0 : Atm) (a1 : Atm) : Option ((Bool × PUnit) × PUnit) := Fw_eqAtom.sem (a0, a1, ())
theorem Sw_eqAtom_eq (a0 : Atm) (a1 : Atm) : Sw_eqAtom a0 a1 =
  (Sw_eqIntS a0.fst a1.fst).bind fun y =>
 bif !y.fst.fst then some ((false, ()), ())
 else
  bif a0.snd.fst != a1.snd.fst then some ((false, ()), ())
  else bif !a0.snd.snd == a1.snd.snd then some ((false, ()), ()) else some ((true, ()), ()) := by kernel_rfl
noncomputable def Ew_eqNode : Env := mkEnv C tab_w_eqAtom [0, 1, 2, 3, 5, 7, 10, 12, 16, 18, 21, 23, 26, 28, 32, 34, 37, 39, 42, 44] 47 (fun x => none)
 (Hints.mk (fun x x_1 => none) (fun s => Nat.testBit 12 s) fun r =>
  bif r == 2 then [11, 27] else bif r == 3 then [13, 29] else [])
 [(ty90, Mode.ro), (ty90, Mode.ro)]
noncomputable def Kw_eqNode := endK C [(ty90, Mode.ro), (ty90, Mode.ro)] [(ty4, 0)] [RV.tmp 4]
noncomputable def Sw_eqNode (a0 : Int × Atm × ByteArray × ByteArray × List Int × Int × Int × Int) (a1 : Int × Atm × ByteArray × ByteArray × List Int × Int × Int × Int) : Option ((Bool × PUnit) × PUnit) := Fw_eqNode.sem (a0, a1, ())
theorem Sw_eqNode_eq (a0 : Int × Atm × ByteArray × ByteArray × List Int × Int × Int × Int) (a1 : Int × Atm × ByteArray × ByteArray × List Int × Int × Int × Int) : Sw_eqNode a0 a1 =
  bif a0.fst != a1.fst then some ((false, ()), ())
else
 (Sw_eqAtom a0.snd.fst a1.snd.fst).bind fun y =>
  bif !y.fst.fst then some ((false, ()), ())
  else
   bif !ByteArray.toList a0.snd.snd.fst == ByteArray.toList a1.snd.snd.fst then some ((false, ()), ())
   else
    bif !ByteArray.toList a0.snd.snd.snd.fst == ByteArray.toList a1.snd.snd.snd.fst then some ((false, ()), ())
    else
     (Sw_eqIntS a0.snd.snd.snd.snd.fst a1.snd.snd.snd.snd.fst).bind fun y =>
      bif !y.fst.fst then some ((false, ()), ())
      else
       bif a0.snd.snd.snd.snd.snd.fst != a1.snd.snd.snd.snd.snd.fst then some ((false, ()), ())
       else
        bif a0.snd.snd.snd.snd.snd.snd.fst != a1.snd.snd.snd.snd.snd.snd.fst then some ((false, ()), ())
        else
         bif a0.snd.snd.snd.snd.snd.snd.snd != a1.snd.snd.snd.snd.snd.snd.snd then some ((false, ()), ())
         else some ((true, ()), ()) := by kernel_rfl
noncomputable def Ew_eqNodeS : Env := mkEnv C tab_w_eqNode [0, 1, 2, 3, 5, 17, 19, 21, 23] 27 (fun k => bif k == 1000004 then some 35 else none)
 (Hints.mk (fun x x_1 => none) (fun s => Nat.testBit 0 s) fun x => []) [(ty46, Mode.ro), (ty46, Mode.ro)]
noncomputable def Kw_eqNodeS := endK C [(ty46, Mode.ro), (ty46, Mode.ro)] [(ty4, 0)] [RV.tmp 4]
noncomputable def Lw_eqNodeS_4 (x0 : List Nod) (x1 : List Nod) (x5 : Int) : Option ((Bool × PUnit) × PUnit) := loopAt Ew_eqNodeS [1, 1, 0, 1, 0] (Try.f27.body.getD .skip) Kw_eqNodeS [V.d none 0 ty46 x0, V.d none 0 ty46 x1, V.dead, V.dead, V.dead, V.d none 0 (Ty.int IntKind.i64) x5, V.dead, V.dead,
 V.dead, V.dead, V.dead, V.dead, V.dead, V.dead, V.dead, V.dead, V.dead, V.dead, V.dead, V.dead, V.dead, V.dead, V.dead,
 V.dead, V.dead, V.dead, V.dead]
noncomputable def Sw_eqNodeS (a0 : List Nod) (a1 : List Nod) : Option ((Bool × PUnit) × PUnit) := Fw_eqNodeS.sem (a0, a1, ())
def jw_eqNodeS : List (Nat × List Nat) := [(1000004, [1, 1, 0, 1, 0])]
theorem jw_eqNodeS_ok : okB jw_eqNodeS (Try.f27.body.getD .skip) [] = true := by kernel_rfl
theorem Lw_eqNodeS_4_eq (x0 : List Nod) (x1 : List Nod) (x5 : Int) : Lw_eqNodeS_4 x0 x1 x5 =
  bif decide (x5 < (↑x0.length : Int)) then
 (getI x0 x5).bind fun y =>
  (getI x1 x5).bind fun y_1 =>
   (Sw_eqNode y y_1).bind fun y =>
    bif !y.fst.fst then some ((false, ()), ()) else Lw_eqNodeS_4 x0 x1 (IntKind.i64.wrap (x5 + 1))
else some ((true, ()), ()) := (turn_eq jw_eqNodeS_ok [1, 1, 0, 1, 0] (by kernel_rfl) _).trans (by kernel_rfl)
theorem Sw_eqNodeS_eq (a0 : List Nod) (a1 : List Nod) : Sw_eqNodeS a0 a1 =
  bif (↑a0.length : Int) != (↑a1.length : Int) then some ((false, ()), ()) else Lw_eqNodeS_4 a0 a1 0 := (Eq.trans (by kernel_rfl : Sw_eqNodeS a0 a1 = denK Ew_eqNodeS (Try.f27.body.getD .skip) Kw_eqNodeS (slots0 27 [(ty46, Mode.ro), (ty46, Mode.ro)] (a0, a1, ()))) (all_eq jw_eqNodeS_ok _)).trans (by kernel_rfl)
noncomputable def Ew_eqNodeSS : Env := mkEnv C tab_w_eqNodeS [0, 1, 2, 3, 5, 17, 19, 21, 23] 27 (fun k => bif k == 1000004 then some 35 else none)
 (Hints.mk (fun x x_1 => none) (fun s => Nat.testBit 0 s) fun x => []) [(ty25, Mode.ro), (ty25, Mode.ro)]
noncomputable def Kw_eqNodeSS := endK C [(ty25, Mode.ro), (ty25, Mode.ro)] [(ty4, 0)] [RV.tmp 4]
noncomputable def Lw_eqNodeSS_4 (x0 : List (List Nod)) (x1 : List (List Nod)) (x5 : Int) : Option ((Bool × PUnit) × PUnit) := loopAt Ew_eqNodeSS [1, 1, 0, 1, 0] (Try.f42.body.getD .skip) Kw_eqNodeSS [V.d none 0 ty25 x0, V.d none 0 ty25 x1, V.dead, V.dead, V.dead, V.d none 0 (Ty.int IntKind.i64) x5, V.dead, V.dead,
 V.dead, V.dead, V.dead, V.dead, V.dead, V.dead, V.dead, V.dead, V.dead, V.dead, V.dead, V.dead, V.dead, V.dead, V.dead,
 V.dead, V.dead, V.dead, V.dead]
noncomputable def Sw_eqNodeSS (a0 : List (List Nod)) (a1 : List (List Nod)) : Option ((Bool × PUnit) × PUnit) := Fw_eqNodeSS.sem (a0, a1, ())
def jw_eqNodeSS : List (Nat × List Nat) := [(1000004, [1, 1, 0, 1, 0])]
theorem jw_eqNodeSS_ok : okB jw_eqNodeSS (Try.f42.body.getD .skip) [] = true := by kernel_rfl
theorem Lw_eqNodeSS_4_eq (x0 : List (List Nod)) (x1 : List (List Nod)) (x5 : Int) : Lw_eqNodeSS_4 x0 x1 x5 =
  bif decide (x5 < (↑x0.length : Int)) then
 (getI x0 x5).bind fun y =>
  (getI x1 x5).bind fun y_1 =>
   (Sw_eqNodeS y y_1).bind fun y =>
    bif !y.fst.fst then some ((false, ()), ()) else Lw_eqNodeSS_4 x0 x1 (IntKind.i64.wrap (x5 + 1))
else some ((true, ()), ()) := (turn_eq jw_eqNodeSS_ok [1, 1, 0, 1, 0] (by kernel_rfl) _).trans (by kernel_rfl)
theorem Sw_eqNodeSS_eq (a0 : List (List Nod)) (a1 : List (List Nod)) : Sw_eqNodeSS a0 a1 =
  bif (↑a0.length : Int) != (↑a1.length : Int) then some ((false, ()), ()) else Lw_eqNodeSS_4 a0 a1 0 := (Eq.trans (by kernel_rfl : Sw_eqNodeSS a0 a1 = denK Ew_eqNodeSS (Try.f42.body.getD .skip) Kw_eqNodeSS (slots0 27 [(ty25, Mode.ro), (ty25, Mode.ro)] (a0, a1, ()))) (all_eq jw_eqNodeSS_ok _)).trans (by kernel_rfl)
noncomputable def Ew_eqAtomS : Env := mkEnv C tab_w_eqNodeSS [0, 1, 2, 3, 5, 17, 19, 21, 23] 27 (fun k => bif k == 1000004 then some 35 else none)
 (Hints.mk (fun x x_1 => none) (fun s => Nat.testBit 0 s) fun x => []) [(ty102, Mode.ro), (ty102, Mode.ro)]
noncomputable def Kw_eqAtomS := endK C [(ty102, Mode.ro), (ty102, Mode.ro)] [(ty4, 0)] [RV.tmp 4]
noncomputable def Lw_eqAtomS_4 (x0 : List Atm) (x1 : List Atm) (x5 : Int) : Option ((Bool × PUnit) × PUnit) := loopAt Ew_eqAtomS [1, 1, 0, 1, 0] (Try.f128.body.getD .skip) Kw_eqAtomS [V.d none 0 ty102 x0, V.d none 0 ty102 x1, V.dead, V.dead, V.dead, V.d none 0 (Ty.int IntKind.i64) x5, V.dead, V.dead,
 V.dead, V.dead, V.dead, V.dead, V.dead, V.dead, V.dead, V.dead, V.dead, V.dead, V.dead, V.dead, V.dead, V.dead, V.dead,
 V.dead, V.dead, V.dead, V.dead]
noncomputable def Sw_eqAtomS (a0 : List Atm) (a1 : List Atm) : Option ((Bool × PUnit) × PUnit) := Fw_eqAtomS.sem (a0, a1, ())
def jw_eqAtomS : List (Nat × List Nat) := [(1000004, [1, 1, 0, 1, 0])]
theorem jw_eqAtomS_ok : okB jw_eqAtomS (Try.f128.body.getD .skip) [] = true := by kernel_rfl
theorem Lw_eqAtomS_4_eq (x0 : List Atm) (x1 : List Atm) (x5 : Int) : Lw_eqAtomS_4 x0 x1 x5 =
  bif decide (x5 < (↑x0.length : Int)) then
 (getI x0 x5).bind fun y =>
  (getI x1 x5).bind fun y_1 =>
   (Sw_eqAtom y y_1).bind fun y =>
    bif !y.fst.fst then some ((false, ()), ()) else Lw_eqAtomS_4 x0 x1 (IntKind.i64.wrap (x5 + 1))
else some ((true, ()), ()) := (turn_eq jw_eqAtomS_ok [1, 1, 0, 1, 0] (by kernel_rfl) _).trans (by kernel_rfl)
theorem Sw_eqAtomS_eq (a0 : List Atm) (a1 : List Atm) : Sw_eqAtomS a0 a1 =
  bif (↑a0.length : Int) != (↑a1.length : Int) then some ((false, ()), ()) else Lw_eqAtomS_4 a0 a1 0 := (Eq.trans (by kernel_rfl : Sw_eqAtomS a0 a1 = denK Ew_eqAtomS (Try.f128.body.getD .skip) Kw_eqAtomS (slots0 27 [(ty102, Mode.ro), (ty102, Mode.ro)] (a0, a1, ()))) (all_eq jw_eqAtomS_ok _)).trans (by kernel_rfl)
noncomputable def Ew_eqCell : Env := mkEnv C tab_w_eqAtomS [0, 1, 2, 3, 5, 7, 10, 12] 16 (fun x => none)
 (Hints.mk (fun x x_1 => none) (fun s => Nat.testBit 12 s) fun r =>
  bif r == 2 then [11] else bif r == 3 then [13] else [])
 [(ty104, Mode.ro), (ty104, Mode.ro)]
noncomputable def Kw_eqCell := endK C [(ty104, Mode.ro), (ty104, Mode.ro)] [(ty4, 0)] [RV.tmp 4]
noncomputable def Sw_eqCell (a0 : Int × List Atm) (a1 : Int × List Atm) : Option ((Bool × PUnit) × PUnit) := Fw_eqCell.sem (a0, a1, ())
theorem Sw_eqCell_eq (a0 : Int × List Atm) (a1 : Int × List Atm) : Sw_eqCell a0 a1 =
  bif a0.fst != a1.fst then some ((false, ()), ())
else (Sw_eqAtomS a0.snd a1.snd).bind fun y => bif !y.fst.fst then some ((false, ()), ()) else some ((true, ()), ()) := by kernel_rfl
noncomputable def Ew_eqRow : Env := mkEnv C tab_w_eqCell [0, 1, 2, 3, 5, 7, 10, 12] 16 (fun x => none)
 (Hints.mk (fun x x_1 => none) (fun s => Nat.testBit 12 s) fun r =>
  bif r == 2 then [11] else bif r == 3 then [13] else [])
 [(ty146, Mode.ro), (ty146, Mode.ro)]
noncomputable def Kw_eqRow := endK C [(ty146, Mode.ro), (ty146, Mode.ro)] [(ty4, 0)] [RV.tmp 4]
noncomputable def Sw_eqRow (a0 : ByteArray × Int × List Atm) (a1 : ByteArray × Int × List Atm) : Option ((Bool × PUnit) × PUnit) := Fw_eqRow.sem (a0, a1, ())
theorem Sw_eqRow_eq (a0 : ByteArray × Int × List Atm) (a1 : ByteArray × Int × List Atm) : Sw_eqRow a0 a1 =
  bif !ByteArray.toList a0.fst == ByteArray.toList a1.fst then some ((false, ()), ())
else (Sw_eqCell a0.snd a1.snd).bind fun y => bif !y.fst.fst then some ((false, ()), ()) else some ((true, ()), ()) := by kernel_rfl
noncomputable def Ew_eqRowS : Env := mkEnv C tab_w_eqRow [0, 1, 2, 3, 5, 17, 19, 21, 23] 27 (fun k => bif k == 1000004 then some 35 else none)
 (Hints.mk (fun x x_1 => none) (fun s => Nat.testBit 0 s) fun x => []) [(ty70, Mode.ro), (ty70, Mode.ro)]
noncomputable def Kw_eqRowS := endK C [(ty70, Mode.ro), (ty70, Mode.ro)] [(ty4, 0)] [RV.tmp 4]
noncomputable def Lw_eqRowS_4 (x0 : List Rw) (x1 : List Rw) (x5 : Int) : Option ((Bool × PUnit) × PUnit) := loopAt Ew_eqRowS [1, 1, 0, 1, 0] (Try.f89.body.getD .skip) Kw_eqRowS [V.d none 0 ty70 x0, V.d none 0 ty70 x1, V.dead, V.dead, V.dead, V.d none 0 (Ty.int IntKind.i64) x5, V.dead, V.dead,
 V.dead, V.dead, V.dead, V.dead, V.dead, V.dead, V.dead, V.dead, V.dead, V.dead, V.dead, V.dead, V.dead, V.dead, V.dead,
 V.dead, V.dead, V.dead, V.dead]
noncomputable def Sw_eqRowS (a0 : List Rw) (a1 : List Rw) : Option ((Bool × PUnit) × PUnit) := Fw_eqRowS.sem (a0, a1, ())
def jw_eqRowS : List (Nat × List Nat) := [(1000004, [1, 1, 0, 1, 0])]
theorem jw_eqRowS_ok : okB jw_eqRowS (Try.f89.body.getD .skip) [] = true := by kernel_rfl
theorem Lw_eqRowS_4_eq (x0 : List Rw) (x1 : List Rw) (x5 : Int) : Lw_eqRowS_4 x0 x1 x5 =
  bif decide (x5 < (↑x0.length : Int)) then
 (getI x0 x5).bind fun y =>
  (getI x1 x5).bind fun y_1 =>
   (Sw_eqRow y y_1).bind fun y =>
    bif !y.fst.fst then some ((false, ()), ()) else Lw_eqRowS_4 x0 x1 (IntKind.i64.wrap (x5 + 1))
else some ((true, ()), ()) := (turn_eq jw_eqRowS_ok [1, 1, 0, 1, 0] (by kernel_rfl) _).trans (by kernel_rfl)
theorem Sw_eqRowS_eq (a0 : List Rw) (a1 : List Rw) : Sw_eqRowS a0 a1 =
  bif (↑a0.length : Int) != (↑a1.length : Int) then some ((false, ()), ()) else Lw_eqRowS_4 a0 a1 0 := (Eq.trans (by kernel_rfl : Sw_eqRowS a0 a1 = denK Ew_eqRowS (Try.f89.body.getD .skip) Kw_eqRowS (slots0 27 [(ty70, Mode.ro), (ty70, Mode.ro)] (a0, a1, ()))) (all_eq jw_eqRowS_ok _)).trans (by kernel_rfl)
noncomputable def Ew_eqRelation : Env := mkEnv C tab_w_eqRowS [0, 1, 2, 3, 5, 7, 10, 12, 15, 17] 21 (fun x => none)
 (Hints.mk (fun x x_1 => none) (fun s => Nat.testBit 12 s) fun r =>
  bif r == 2 then [16] else bif r == 3 then [18] else [])
 [(ty72, Mode.ro), (ty72, Mode.ro)]
noncomputable def Kw_eqRelation := endK C [(ty72, Mode.ro), (ty72, Mode.ro)] [(ty4, 0)] [RV.tmp 4]
noncomputable def Sw_eqRelation (a0 : ByteArray × Int × List Rw) (a1 : ByteArray × Int × List Rw) : Option ((Bool × PUnit) × PUnit) := Fw_eqRelation.sem (a0, a1, ())
theorem Sw_eqRelation_eq (a0 : ByteArray × Int × List Rw) (a1 : ByteArray × Int × List Rw) : Sw_eqRelation a0 a1 =
  bif !ByteArray.toList a0.fst == ByteArray.toList a1.fst then some ((false, ()), ())
else
 bif a0.snd.fst != a1.snd.fst then some ((false, ()), ())
 else
  (Sw_eqRowS a0.snd.snd a1.snd.snd).bind fun y => bif !y.fst.fst then some ((false, ()), ()) else some ((true, ()), ()) := by kernel_rfl
noncomputable def Ew_eqRelationS : Env := mkEnv C tab_w_eqRelation [0, 1, 2, 3, 5, 17, 19, 21, 23] 27 (fun k => bif k == 1000004 then some 35 else none)
 (Hints.mk (fun x x_1 => none) (fun s => Nat.testBit 0 s) fun x => []) [(ty44, Mode.ro), (ty44, Mode.ro)]
noncomputable def Kw_eqRelationS := endK C [(ty44, Mode.ro), (ty44, Mode.ro)] [(ty4, 0)] [RV.tmp 4]
noncomputable def Lw_eqRelationS_4 (x0 : List Rel) (x1 : List Rel) (x5 : Int) : Option ((Bool × PUnit) × PUnit) := loopAt Ew_eqRelationS [1, 1, 0, 1, 0] (Try.f26.body.getD .skip) Kw_eqRelationS [V.d none 0 ty44 x0, V.d none 0 ty44 x1, V.dead, V.dead, V.dead, V.d none 0 (Ty.int IntKind.i64) x5, V.dead, V.dead,
 V.dead, V.dead, V.dead, V.dead, V.dead, V.dead, V.dead, V.dead, V.dead, V.dead, V.dead, V.dead, V.dead, V.dead, V.dead,
 V.dead, V.dead, V.dead, V.dead]
noncomputable def Sw_eqRelationS (a0 : List Rel) (a1 : List Rel) : Option ((Bool × PUnit) × PUnit) := Fw_eqRelationS.sem (a0, a1, ())
def jw_eqRelationS : List (Nat × List Nat) := [(1000004, [1, 1, 0, 1, 0])]
theorem jw_eqRelationS_ok : okB jw_eqRelationS (Try.f26.body.getD .skip) [] = true := by kernel_rfl
theorem Lw_eqRelationS_4_eq (x0 : List Rel) (x1 : List Rel) (x5 : Int) : Lw_eqRelationS_4 x0 x1 x5 =
  bif decide (x5 < (↑x0.length : Int)) then
 (getI x0 x5).bind fun y =>
  (getI x1 x5).bind fun y_1 =>
   (Sw_eqRelation y y_1).bind fun y =>
    bif !y.fst.fst then some ((false, ()), ()) else Lw_eqRelationS_4 x0 x1 (IntKind.i64.wrap (x5 + 1))
else some ((true, ()), ()) := (turn_eq jw_eqRelationS_ok [1, 1, 0, 1, 0] (by kernel_rfl) _).trans (by kernel_rfl)
theorem Sw_eqRelationS_eq (a0 : List Rel) (a1 : List Rel) : Sw_eqRelationS a0 a1 =
  bif (↑a0.length : Int) != (↑a1.length : Int) then some ((false, ()), ()) else Lw_eqRelationS_4 a0 a1 0 := (Eq.trans (by kernel_rfl : Sw_eqRelationS a0 a1 = denK Ew_eqRelationS (Try.f26.body.getD .skip) Kw_eqRelationS (slots0 27 [(ty44, Mode.ro), (ty44, Mode.ro)] (a0, a1, ()))) (all_eq jw_eqRelationS_ok _)).trans (by kernel_rfl)
noncomputable def Ew_eqRelationSS : Env := mkEnv C tab_w_eqRelationS [0, 1, 2, 3, 5, 17, 19, 21, 23] 27 (fun k => bif k == 1000004 then some 35 else none)
 (Hints.mk (fun x x_1 => none) (fun s => Nat.testBit 0 s) fun x => []) [(ty26, Mode.ro), (ty26, Mode.ro)]
noncomputable def Kw_eqRelationSS := endK C [(ty26, Mode.ro), (ty26, Mode.ro)] [(ty4, 0)] [RV.tmp 4]
noncomputable def Lw_eqRelationSS_4 (x0 : List (List Rel)) (x1 : List (List Rel)) (x5 : Int) : Option ((Bool × PUnit) × PUnit) := loopAt Ew_eqRelationSS [1, 1, 0, 1, 0] (Try.f43.body.getD .skip) Kw_eqRelationSS [V.d none 0 ty26 x0, V.d none 0 ty26 x1, V.dead, V.dead, V.dead, V.d none 0 (Ty.int IntKind.i64) x5, V.dead, V.dead,
 V.dead, V.dead, V.dead, V.dead, V.dead, V.dead, V.dead, V.dead, V.dead, V.dead, V.dead, V.dead, V.dead, V.dead, V.dead,
 V.dead, V.dead, V.dead, V.dead]
noncomputable def Sw_eqRelationSS (a0 : List (List Rel)) (a1 : List (List Rel)) : Option ((Bool × PUnit) × PUnit) := Fw_eqRelationSS.sem (a0, a1, ())
def jw_eqRelationSS : List (Nat × List Nat) := [(1000004, [1, 1, 0, 1, 0])]
theorem jw_eqRelationSS_ok : okB jw_eqRelationSS (Try.f43.body.getD .skip) [] = true := by kernel_rfl
theorem Lw_eqRelationSS_4_eq (x0 : List (List Rel)) (x1 : List (List Rel)) (x5 : Int) : Lw_eqRelationSS_4 x0 x1 x5 =
  bif decide (x5 < (↑x0.length : Int)) then
 (getI x0 x5).bind fun y =>
  (getI x1 x5).bind fun y_1 =>
   (Sw_eqRelationS y y_1).bind fun y =>
    bif !y.fst.fst then some ((false, ()), ()) else Lw_eqRelationSS_4 x0 x1 (IntKind.i64.wrap (x5 + 1))
else some ((true, ()), ()) := (turn_eq jw_eqRelationSS_ok [1, 1, 0, 1, 0] (by kernel_rfl) _).trans (by kernel_rfl)
theorem Sw_eqRelationSS_eq (a0 : List (List Rel)) (a1 : List (List Rel)) : Sw_eqRelationSS a0 a1 =
  bif (↑a0.length : Int) != (↑a1.length : Int) then some ((false, ()), ()) else Lw_eqRelationSS_4 a0 a1 0 := (Eq.trans (by kernel_rfl : Sw_eqRelationSS a0 a1 = denK Ew_eqRelationSS (Try.f43.body.getD .skip) Kw_eqRelationSS (slots0 27 [(ty26, Mode.ro), (ty26, Mode.ro)] (a0, a1, ()))) (all_eq jw_eqRelationSS_ok _)).trans (by kernel_rfl)
noncomputable def Ew_eqStore : Env := mkEnv C tab_w_eqRelationSS [0, 1, 2, 3, 5, 7, 11, 13] 17 (fun x => none)
 (Hints.mk (fun x x_1 => none) (fun s => Nat.testBit 12 s) fun r =>
  bif r == 2 then [6, 12] else bif r == 3 then [8, 14] else [])
 [(ty28, Mode.ro), (ty28, Mode.ro)]
noncomputable def Kw_eqStore := endK C [(ty28, Mode.ro), (ty28, Mode.ro)] [(ty4, 0)] [RV.tmp 4]
noncomputable def Sw_eqStore (a0 : Sto) (a1 : Sto) : Option ((Bool × PUnit) × PUnit) := Fw_eqStore.sem (a0, a1, ())
theorem Sw_eqStore_eq (a0 : Sto) (a1 : Sto) : Sw_eqStore a0 a1 =
  (Sw_eqNodeSS a0.fst a1.fst).bind fun y =>
 bif !y.fst.fst then some ((false, ()), ())
 else
  (Sw_eqRelationSS a0.snd a1.snd).bind fun y => bif !y.fst.fst then some ((false, ()), ()) else some ((true, ()), ()) := by kernel_rfl
noncomputable def Ew_eqStringS : Env := mkEnv C tab_w_eqOpS [0, 1, 2, 3, 5, 17, 19, 21, 23] 26 (fun k => bif k == 1000004 then some 35 else none)
 (Hints.mk (fun x x_1 => none) (fun s => Nat.testBit 0 s) fun x => []) [(ty22, Mode.ro), (ty22, Mode.ro)]
noncomputable def Kw_eqStringS := endK C [(ty22, Mode.ro), (ty22, Mode.ro)] [(ty4, 0)] [RV.tmp 4]
noncomputable def Lw_eqStringS_4 (x0 : List ByteArray) (x1 : List ByteArray) (x5 : Int) : Option ((Bool × PUnit) × PUnit) := loopAt Ew_eqStringS [1, 1, 0, 1, 0] (Try.f14.body.getD .skip) Kw_eqStringS [V.d none 0 ty22 x0, V.d none 0 ty22 x1, V.dead, V.dead, V.dead, V.d none 0 (Ty.int IntKind.i64) x5, V.dead, V.dead,
 V.dead, V.dead, V.dead, V.dead, V.dead, V.dead, V.dead, V.dead, V.dead, V.dead, V.dead, V.dead, V.dead, V.dead, V.dead,
 V.dead, V.dead, V.dead]
noncomputable def Sw_eqStringS (a0 : List ByteArray) (a1 : List ByteArray) : Option ((Bool × PUnit) × PUnit) := Fw_eqStringS.sem (a0, a1, ())
def jw_eqStringS : List (Nat × List Nat) := [(1000004, [1, 1, 0, 1, 0])]
theorem jw_eqStringS_ok : okB jw_eqStringS (Try.f14.body.getD .skip) [] = true := by kernel_rfl
theorem Lw_eqStringS_4_eq (x0 : List ByteArray) (x1 : List ByteArray) (x5 : Int) : Lw_eqStringS_4 x0 x1 x5 =
  bif decide (x5 < (↑x0.length : Int)) then
 (getI x0 x5).bind fun y =>
  (getI x1 x5).bind fun y_1 =>
   bif !y.toList == y_1.toList then some ((false, ()), ()) else Lw_eqStringS_4 x0 x1 (IntKind.i64.wrap (x5 + 1))
else some ((true, ()), ()) := (turn_eq jw_eqStringS_ok [1, 1, 0, 1, 0] (by kernel_rfl) _).trans (by kernel_rfl)
theorem Sw_eqStringS_eq (a0 : List ByteArray) (a1 : List ByteArray) : Sw_eqStringS a0 a1 =
  bif (↑a0.length : Int) != (↑a1.length : Int) then some ((false, ()), ()) else Lw_eqStringS_4 a0 a1 0 := (Eq.trans (by kernel_rfl : Sw_eqStringS a0 a1 = denK Ew_eqStringS (Try.f14.body.getD .skip) Kw_eqStringS (slots0 26 [(ty22, Mode.ro), (ty22, Mode.ro)] (a0, a1, ()))) (all_eq jw_eqStringS_ok _)).trans (by kernel_rfl)
noncomputable def Ew_markText : Env := mkEnv C tab_w_markIntS [0, 1, 3] 20 (fun k => bif k == 1000004 then some 9 else none)
 (Hints.mk (fun x x_1 => none) (fun s => Nat.testBit 0 s) fun x => []) [(ty3, Mode.ro)]
noncomputable def Kw_markText := endK C [(ty3, Mode.ro)] [(ty9, 0)] [RV.tmp 2]
noncomputable def Lw_markText_4 (x0 : Int) (x3 : ByteArray) : Option ((ByteArray × PUnit) × PUnit) := loopAt Ew_markText [1, 1, 1, 0, 0] (Try.f44.body.getD .skip) Kw_markText [V.d none 0 ty3 x0, V.dead, V.dead, V.d none 0 Ty.str x3, V.dead, V.dead, V.dead, V.dead, V.dead, V.dead, V.dead,
 V.dead, V.dead, V.dead, V.dead, V.dead, V.dead, V.dead, V.dead, V.dead]
noncomputable def Sw_markText (a0 : Int) : Option ((ByteArray × PUnit) × PUnit) := Fw_markText.sem (a0, ())
def jw_markText : List (Nat × List Nat) := [(1000004, [1, 1, 1, 0, 0])]
theorem jw_markText_ok : okB jw_markText (Try.f44.body.getD .skip) [] = true := by kernel_rfl
theorem Lw_markText_4_eq (x0 : Int) (x3 : ByteArray) : Lw_markText_4 x0 x3 =
  bif decide (x0 > 0) then
 bif decide ((strOf [IntKind.u8.wrap (IntKind.i64.wrap (48 + x0.tmod 10))]).size + x3.size ≤ 140737488355328) then
  Lw_markText_4 (IntKind.i64.wrap (x0.tdiv 10)) (strOf [IntKind.u8.wrap (IntKind.i64.wrap (48 + x0.tmod 10))] ++ x3)
 else none
else
 bif decide ((ByteArray.mk #[109]).size + x3.size ≤ 140737488355328) then some ((ByteArray.mk #[109] ++ x3, ()), ())
 else none := (turn_eq jw_markText_ok [1, 1, 1, 0, 0] (by kernel_rfl) _).trans (by kernel_rfl)
theorem Sw_markText_eq (a0 : Int) : Sw_markText a0 =
  bif decide (a0 ≤ 0) then some ((ByteArray.mk #[109, 48], ()), ()) else Lw_markText_4 a0 (ByteArray.mk #[]) := (Eq.trans (by kernel_rfl : Sw_markText a0 = denK Ew_markText (Try.f44.body.getD .skip) Kw_markText (slots0 20 [(ty3, Mode.ro)] (a0, ()))) (all_eq jw_markText_ok _)).trans (by kernel_rfl)
noncomputable def Ew_markStringS : Env := mkEnv C tab_w_markOpS [0, 1, 2, 3, 5, 12] 20 (fun k => bif k == 1000002 then some 35 else none)
 (Hints.mk (fun x x_1 => none) (fun s => Nat.testBit 0 s) fun x => []) [(ty22, Mode.mut 1), (ty3, Mode.ro)]
noncomputable def Kw_markStringS := endK C [(ty22, Mode.mut 1), (ty3, Mode.ro)] [(ty3, 0)] [RV.tmp 4]
noncomputable def Lw_markStringS_2 (x0 : List ByteArray) (x1 : Int) (x5 : Int) : Option ((Int × PUnit) × List ByteArray × PUnit) := loopAt Ew_markStringS [1, 0, 1, 0] (Try.f16.body.getD .skip) Kw_markStringS [V.d none 1 ty22 x0, V.d none 0 ty3 x1, V.dead, V.dead, V.dead, V.d none 0 (Ty.int IntKind.i64) x5, V.dead, V.dead,
 V.dead, V.dead, V.dead, V.dead, V.dead, V.dead, V.dead, V.dead, V.dead, V.dead, V.dead, V.dead]
noncomputable def Sw_markStringS (a0 : List ByteArray) (a1 : Int) : Option ((Int × PUnit) × List ByteArray × PUnit) := Fw_markStringS.sem (a0, a1, ())
def jw_markStringS : List (Nat × List Nat) := [(1000002, [1, 0, 1, 0])]
theorem jw_markStringS_ok : okB jw_markStringS (Try.f16.body.getD .skip) [] = true := by kernel_rfl
theorem Lw_markStringS_2_eq (x0 : List ByteArray) (x1 : Int) (x5 : Int) : Lw_markStringS_2 x0 x1 x5 =
  bif decide (x5 < (↑x0.length : Int)) then
 (Sw_markText x1).bind fun y =>
  (getI x0 x5).bind fun y_1 =>
   (getI x0 x5).bind fun y_2 =>
    (getI x0 x5).bind fun y_3 =>
     (some (x0.set x5.toNat y.fst.fst)).bind fun y =>
      Lw_markStringS_2 y (IntKind.i64.wrap (x1 + 1)) (IntKind.i64.wrap (x5 + 1))
else some ((x1, ()), x0, ()) := (turn_eq jw_markStringS_ok [1, 0, 1, 0] (by kernel_rfl) _).trans (by kernel_rfl)
theorem Sw_markStringS_eq (a0 : List ByteArray) (a1 : Int) : Sw_markStringS a0 a1 =
  Lw_markStringS_2 a0 a1 0 := (Eq.trans (by kernel_rfl : Sw_markStringS a0 a1 = denK Ew_markStringS (Try.f16.body.getD .skip) Kw_markStringS (slots0 20 [(ty22, Mode.mut 1), (ty3, Mode.ro)] (a0, a1, ()))) (all_eq jw_markStringS_ok _)).trans (by kernel_rfl)
noncomputable def Ew_markIntS : Env := mkEnv C tab_w_eqHouse [0, 1, 2, 3, 5, 12] 19 (fun k => bif k == 1000002 then some 35 else none)
 (Hints.mk (fun x x_1 => none) (fun s => Nat.testBit 0 s) fun x => []) [(ty23, Mode.mut 1), (ty3, Mode.ro)]
noncomputable def Kw_markIntS := endK C [(ty23, Mode.mut 1), (ty3, Mode.ro)] [(ty3, 0)] [RV.tmp 4]
noncomputable def Lw_markIntS_2 (x0 : List Int) (x1 : Int) (x5 : Int) : Option ((Int × PUnit) × List Int × PUnit) := loopAt Ew_markIntS [1, 0, 1, 0] (Try.f17.body.getD .skip) Kw_markIntS [V.d none 1 ty23 x0, V.d none 0 ty3 x1, V.dead, V.dead, V.dead, V.d none 0 (Ty.int IntKind.i64) x5, V.dead, V.dead,
 V.dead, V.dead, V.dead, V.dead, V.dead, V.dead, V.dead, V.dead, V.dead, V.dead, V.dead]
noncomputable def Sw_markIntS (a0 : List Int) (a1 : Int) : Option ((Int × PUnit) × List Int × PUnit) := Fw_markIntS.sem (a0, a1, ())
def jw_markIntS : List (Nat × List Nat) := [(1000002, [1, 0, 1, 0])]
theorem jw_markIntS_ok : okB jw_markIntS (Try.f17.body.getD .skip) [] = true := by kernel_rfl
theorem Lw_markIntS_2_eq (x0 : List Int) (x1 : Int) (x5 : Int) : Lw_markIntS_2 x0 x1 x5 =
  bif decide (x5 < (↑x0.length : Int)) then
 (getI x0 x5).bind fun y =>
  (getI x0 x5).bind fun y =>
   (getI x0 x5).bind fun y =>
    (some (x0.set x5.toNat x1)).bind fun y => Lw_markIntS_2 y (IntKind.i64.wrap (x1 + 1)) (IntKind.i64.wrap (x5 + 1))
else some ((x1, ()), x0, ()) := (turn_eq jw_markIntS_ok [1, 0, 1, 0] (by kernel_rfl) _).trans (by kernel_rfl)
theorem Sw_markIntS_eq (a0 : List Int) (a1 : Int) : Sw_markIntS a0 a1 =
  Lw_markIntS_2 a0 a1 0 := (Eq.trans (by kernel_rfl : Sw_markIntS a0 a1 = denK Ew_markIntS (Try.f17.body.getD .skip) Kw_markIntS (slots0 19 [(ty23, Mode.mut 1), (ty3, Mode.ro)] (a0, a1, ()))) (all_eq jw_markIntS_ok _)).trans (by kernel_rfl)
noncomputable def Ew_markNodeS : Env := mkEnv C tab_w_markText
 [0, 1, 2, 3, 5, 12, 15, 19, 21, 22, 23, 27, 30, 31, 35, 40, 41, 45, 49, 53, 57, 61, 63, 64, 68, 71, 75, 78, 82, 85] 90
 (fun k => bif k == 1000002 then some 35 else none)
 (Hints.mk (fun x x_1 => none) (fun s => Nat.testBit 0 s) fun x => []) [(ty46, Mode.mut 2), (ty3, Mode.ro)]
noncomputable def Kw_markNodeS := endK C [(ty46, Mode.mut 2), (ty3, Mode.ro)] [(ty3, 0)] [RV.tmp 4]
noncomputable def Lw_markNodeS_2 (x0 : List Nod) (x1 : Int) (x5 : Int) : Option ((Int × PUnit) × List Nod × PUnit) := loopAt Ew_markNodeS [1, 0, 1, 0] (Try.f77.body.getD .skip) Kw_markNodeS [V.d none 2 ty46 x0, V.d none 0 ty3 x1, V.dead, V.dead, V.dead, V.d none 0 (Ty.int IntKind.i64) x5, V.dead, V.dead,
 V.dead, V.dead, V.dead, V.dead, V.dead, V.dead, V.dead, V.dead, V.dead, V.dead, V.dead, V.dead, V.dead, V.dead, V.dead,
 V.dead, V.dead, V.dead, V.dead, V.dead, V.dead, V.dead, V.dead, V.dead, V.dead, V.dead, V.dead, V.dead, V.dead, V.dead,
 V.dead, V.dead, V.dead, V.dead, V.dead, V.dead, V.dead, V.dead, V.dead, V.dead, V.dead, V.dead, V.dead, V.dead, V.dead,
 V.dead, V.dead, V.dead, V.dead, V.dead, V.dead, V.dead, V.dead, V.dead, V.dead, V.dead, V.dead, V.dead, V.dead, V.dead,
 V.dead, V.dead, V.dead, V.dead, V.dead, V.dead, V.dead, V.dead, V.dead, V.dead, V.dead, V.dead, V.dead, V.dead, V.dead,
 V.dead, V.dead, V.dead, V.dead, V.dead, V.dead, V.dead]
noncomputable def Sw_markNodeS (a0 : List Nod) (a1 : Int) : Option ((Int × PUnit) × List Nod × PUnit) := Fw_markNodeS.sem (a0, a1, ())
def jw_markNodeS : List (Nat × List Nat) := [(1000002, [1, 0, 1, 0])]
theorem jw_markNodeS_ok : okB jw_markNodeS (Try.f77.body.getD .skip) [] = true := by kernel_rfl
theorem Lw_markNodeS_2_eq (x0 : List Nod) (x1 : Int) (x5 : Int) : Lw_markNodeS_2 x0 x1 x5 =
  bif decide (x5 < (↑x0.length : Int)) then
 (getI x0 x5).bind fun y =>
  (getI x0 x5).bind fun y =>
   (getI x0 x5).bind fun y =>
    (some (x0.set x5.toNat (x1, y.snd))).bind fun y =>
     (getI y x5).bind fun y_1 =>
      (getI y x5).bind fun y_2 =>
       (getI y x5).bind fun y_3 =>
        (Sw_markIntS y_3.snd.fst.fst (IntKind.i64.wrap (x1 + 1))).bind fun y_4 =>
         (getI y x5).bind fun y_5 =>
          (some (y.set x5.toNat (y_5.fst, (y_4.snd.fst, y_5.snd.fst.snd), y_5.snd.snd))).bind fun y =>
           (getI y x5).bind fun y_6 =>
            (getI y x5).bind fun y_7 =>
             (getI y x5).bind fun y_8 =>
              (some (y.set x5.toNat (y_8.fst, (y_8.snd.fst.fst, y_4.fst.fst, y_8.snd.fst.snd.snd), y_8.snd.snd))).bind
               fun y =>
               (getI y x5).bind fun y_9 =>
                (getI y x5).bind fun y_10 =>
                 (getI y x5).bind fun y_11 =>
                  (some
                     (y.set x5.toNat
                      (y_11.fst,
                       (y_11.snd.fst.fst, y_11.snd.fst.snd.fst, (IntKind.i64.wrap (y_4.fst.fst + 1)).tmod 3 == 0),
                       y_11.snd.snd))).bind
                   fun y =>
                   (Sw_markText (IntKind.i64.wrap (IntKind.i64.wrap (y_4.fst.fst + 1) + 1))).bind fun y_12 =>
                    (getI y x5).bind fun y_13 =>
                     (getI y x5).bind fun y_14 =>
                      (getI y x5).bind fun y_15 =>
                       (some (y.set x5.toNat (y_15.fst, y_15.snd.fst, y_12.fst.fst, y_15.snd.snd.snd))).bind fun y =>
                        (Sw_markText
                           (IntKind.i64.wrap (IntKind.i64.wrap (IntKind.i64.wrap (y_4.fst.fst + 1) + 1) + 1))).bind
                         fun y_16 =>
                         (getI y x5).bind fun y_17 =>
                          (getI y x5).bind fun y_18 =>
                           (getI y x5).bind fun y_19 =>
                            (some
                               (y.set x5.toNat
                                (y_19.fst, y_19.snd.fst, y_19.snd.snd.fst, y_16.fst.fst, y_19.snd.snd.snd.snd))).bind
                             fun y =>
                             (getI y x5).bind fun y_20 =>
                              (getI y x5).bind fun y_21 =>
                               (getI y x5).bind fun y_22 =>
                                (Sw_markIntS y_22.snd.snd.snd.snd.fst
                                   (IntKind.i64.wrap
                                    (IntKind.i64.wrap (IntKind.i64.wrap (IntKind.i64.wrap (y_4.fst.fst + 1) + 1) + 1) +
                                     1))).bind
                                 fun y_23 =>
                                 (getI y x5).bind fun y_24 =>
                                  (some
                                     (y.set x5.toNat
                                      (y_24.fst, y_24.snd.fst, y_24.snd.snd.fst, y_24.snd.snd.snd.fst, y_23.snd.fst,
                                       y_24.snd.snd.snd.snd.snd))).bind
                                   fun y =>
                                   (getI y x5).bind fun y_25 =>
                                    (getI y x5).bind fun y_26 =>
                                     (getI y x5).bind fun y_27 =>
                                      (some
                                         (y.set x5.toNat
                                          (y_27.fst, y_27.snd.fst, y_27.snd.snd.fst, y_27.snd.snd.snd.fst,
                                           y_27.snd.snd.snd.snd.fst, y_23.fst.fst, y_27.snd.snd.snd.snd.snd.snd))).bind
                                       fun y =>
                                       (getI y x5).bind fun y_28 =>
                                        (getI y x5).bind fun y_29 =>
                                         (getI y x5).bind fun y_30 =>
                                          (some
                                             (y.set x5.toNat
                                              (y_30.fst, y_30.snd.fst, y_30.snd.snd.fst, y_30.snd.snd.snd.fst,
                                               y_30.snd.snd.snd.snd.fst, y_30.snd.snd.snd.snd.snd.fst,
                                               IntKind.i64.wrap (y_23.fst.fst + 1),
                                               y_30.snd.snd.snd.snd.snd.snd.snd))).bind
                                           fun y =>
                                           (getI y x5).bind fun y_31 =>
                                            (getI y x5).bind fun y_32 =>
                                             (getI y x5).bind fun y_33 =>
                                              (some
                                                 (y.set x5.toNat
                                                  (y_33.fst, y_33.snd.fst, y_33.snd.snd.fst, y_33.snd.snd.snd.fst,
                                                   y_33.snd.snd.snd.snd.fst, y_33.snd.snd.snd.snd.snd.fst,
                                                   y_33.snd.snd.snd.snd.snd.snd.fst,
                                                   IntKind.i64.wrap (IntKind.i64.wrap (y_23.fst.fst + 1) + 1)))).bind
                                               fun y =>
                                               Lw_markNodeS_2 y
                                                (IntKind.i64.wrap
                                                 (IntKind.i64.wrap (IntKind.i64.wrap (y_23.fst.fst + 1) + 1) + 1))
                                                (IntKind.i64.wrap (x5 + 1))
else some ((x1, ()), x0, ()) := (turn_eq jw_markNodeS_ok [1, 0, 1, 0] (by kernel_rfl) _).trans (by kernel_rfl)
theorem Sw_markNodeS_eq (a0 : List Nod) (a1 : Int) : Sw_markNodeS a0 a1 =
  Lw_markNodeS_2 a0 a1 0 := (Eq.trans (by kernel_rfl : Sw_markNodeS a0 a1 = denK Ew_markNodeS (Try.f77.body.getD .skip) Kw_markNodeS (slots0 90 [(ty46, Mode.mut 2), (ty3, Mode.ro)] (a0, a1, ()))) (all_eq jw_markNodeS_ok _)).trans (by kernel_rfl)
noncomputable def Ew_markNodeSS : Env := mkEnv C tab_w_markNodeS [0, 1, 2, 3, 5, 12, 14] 19 (fun k => bif k == 1000002 then some 35 else none)
 (Hints.mk (fun x x_1 => none) (fun s => Nat.testBit 0 s) fun x => []) [(ty25, Mode.mut 3), (ty3, Mode.ro)]
noncomputable def Kw_markNodeSS := endK C [(ty25, Mode.mut 3), (ty3, Mode.ro)] [(ty3, 0)] [RV.tmp 4]
noncomputable def Lw_markNodeSS_2 (x0 : List (List Nod)) (x1 : Int) (x5 : Int) : Option ((Int × PUnit) × List (List Nod) × PUnit) := loopAt Ew_markNodeSS [1, 0, 1, 0] (Try.f45.body.getD .skip) Kw_markNodeSS [V.d none 3 ty25 x0, V.d none 0 ty3 x1, V.dead, V.dead, V.dead, V.d none 0 (Ty.int IntKind.i64) x5, V.dead, V.dead,
 V.dead, V.dead, V.dead, V.dead, V.dead, V.dead, V.dead, V.dead, V.dead, V.dead, V.dead]
noncomputable def Sw_markNodeSS (a0 : List (List Nod)) (a1 : Int) : Option ((Int × PUnit) × List (List Nod) × PUnit) := Fw_markNodeSS.sem (a0, a1, ())
def jw_markNodeSS : List (Nat × List Nat) := [(1000002, [1, 0, 1, 0])]
theorem jw_markNodeSS_ok : okB jw_markNodeSS (Try.f45.body.getD .skip) [] = true := by kernel_rfl
theorem Lw_markNodeSS_2_eq (x0 : List (List Nod)) (x1 : Int) (x5 : Int) : Lw_markNodeSS_2 x0 x1 x5 =
  bif decide (x5 < (↑x0.length : Int)) then
 (getI x0 x5).bind fun y =>
  (getI x0 x5).bind fun y =>
   (getI x0 x5).bind fun y =>
    (Sw_markNodeS y x1).bind fun y =>
     (getI x0 x5).bind fun y_1 =>
      (some (x0.set x5.toNat y.snd.fst)).bind fun y_2 => Lw_markNodeSS_2 y_2 y.fst.fst (IntKind.i64.wrap (x5 + 1))
else some ((x1, ()), x0, ()) := (turn_eq jw_markNodeSS_ok [1, 0, 1, 0] (by kernel_rfl) _).trans (by kernel_rfl)
theorem Sw_markNodeSS_eq (a0 : List (List Nod)) (a1 : Int) : Sw_markNodeSS a0 a1 =
  Lw_markNodeSS_2 a0 a1 0 := (Eq.trans (by kernel_rfl : Sw_markNodeSS a0 a1 = denK Ew_markNodeSS (Try.f45.body.getD .skip) Kw_markNodeSS (slots0 19 [(ty25, Mode.mut 3), (ty3, Mode.ro)] (a0, a1, ()))) (all_eq jw_markNodeSS_ok _)).trans (by kernel_rfl)
noncomputable def Ew_markAtomS : Env := mkEnv C tab_w_markNodeSS [0, 1, 2, 3, 5, 12, 14, 15, 19, 22, 26, 31] 36
 (fun k => bif k == 1000002 then some 35 else none)
 (Hints.mk (fun x x_1 => none) (fun s => Nat.testBit 0 s) fun x => []) [(ty102, Mode.mut 2), (ty3, Mode.ro)]
noncomputable def Kw_markAtomS := endK C [(ty102, Mode.mut 2), (ty3, Mode.ro)] [(ty3, 0)] [RV.tmp 4]
noncomputable def Lw_markAtomS_2 (x0 : List Atm) (x1 : Int) (x5 : Int) : Option ((Int × PUnit) × List Atm × PUnit) := loopAt Ew_markAtomS [1, 0, 1, 0] (Try.f93.body.getD .skip) Kw_markAtomS [V.d none 2 ty102 x0, V.d none 0 ty3 x1, V.dead, V.dead, V.dead, V.d none 0 (Ty.int IntKind.i64) x5, V.dead, V.dead,
 V.dead, V.dead, V.dead, V.dead, V.dead, V.dead, V.dead, V.dead, V.dead, V.dead, V.dead, V.dead, V.dead, V.dead, V.dead,
 V.dead, V.dead, V.dead, V.dead, V.dead, V.dead, V.dead, V.dead, V.dead, V.dead, V.dead, V.dead, V.dead]
noncomputable def Sw_markAtomS (a0 : List Atm) (a1 : Int) : Option ((Int × PUnit) × List Atm × PUnit) := Fw_markAtomS.sem (a0, a1, ())
def jw_markAtomS : List (Nat × List Nat) := [(1000002, [1, 0, 1, 0])]
theorem jw_markAtomS_ok : okB jw_markAtomS (Try.f93.body.getD .skip) [] = true := by kernel_rfl
theorem Lw_markAtomS_2_eq (x0 : List Atm) (x1 : Int) (x5 : Int) : Lw_markAtomS_2 x0 x1 x5 =
  bif decide (x5 < (↑x0.length : Int)) then
 (getI x0 x5).bind fun y =>
  (getI x0 x5).bind fun y =>
   (getI x0 x5).bind fun y =>
    (Sw_markIntS y.fst x1).bind fun y =>
     (getI x0 x5).bind fun y_1 =>
      (some (x0.set x5.toNat (y.snd.fst, y_1.snd))).bind fun y_2 =>
       (getI y_2 x5).bind fun y_3 =>
        (getI y_2 x5).bind fun y_4 =>
         (getI y_2 x5).bind fun y_5 =>
          (some (y_2.set x5.toNat (y_5.fst, y.fst.fst, y_5.snd.snd))).bind fun y_6 =>
           (getI y_6 x5).bind fun y_7 =>
            (getI y_6 x5).bind fun y_8 =>
             (getI y_6 x5).bind fun y_9 =>
              (some (y_6.set x5.toNat (y_9.fst, y_9.snd.fst, (IntKind.i64.wrap (y.fst.fst + 1)).tmod 3 == 0))).bind
               fun y_10 =>
               Lw_markAtomS_2 y_10 (IntKind.i64.wrap (IntKind.i64.wrap (y.fst.fst + 1) + 1)) (IntKind.i64.wrap (x5 + 1))
else some ((x1, ()), x0, ()) := (turn_eq jw_markAtomS_ok [1, 0, 1, 0] (by kernel_rfl) _).trans (by kernel_rfl)
theorem Sw_markAtomS_eq (a0 : List Atm) (a1 : Int) : Sw_markAtomS a0 a1 =
  Lw_markAtomS_2 a0 a1 0 := (Eq.trans (by kernel_rfl : Sw_markAtomS a0 a1 = denK Ew_markAtomS (Try.f93.body.getD .skip) Kw_markAtomS (slots0 36 [(ty102, Mode.mut 2), (ty3, Mode.ro)] (a0, a1, ()))) (all_eq jw_markAtomS_ok _)).trans (by kernel_rfl)
noncomputable def Ew_markRowS : Env := mkEnv C tab_w_markAtomS [0, 1, 2, 3, 5, 12, 16, 20, 23, 24, 28, 30, 31, 32] 37
 (fun k => bif k == 1000002 then some 35 else none)
 (Hints.mk (fun x x_1 => none) (fun s => Nat.testBit 0 s) fun x => []) [(ty70, Mode.mut 3), (ty3, Mode.ro)]
noncomputable def Kw_markRowS := endK C [(ty70, Mode.mut 3), (ty3, Mode.ro)] [(ty3, 0)] [RV.tmp 4]
noncomputable def Lw_markRowS_2 (x0 : List Rw) (x1 : Int) (x5 : Int) : Option ((Int × PUnit) × List Rw × PUnit) := loopAt Ew_markRowS [1, 0, 1, 0] (Try.f106.body.getD .skip) Kw_markRowS [V.d none 3 ty70 x0, V.d none 0 ty3 x1, V.dead, V.dead, V.dead, V.d none 0 (Ty.int IntKind.i64) x5, V.dead, V.dead,
 V.dead, V.dead, V.dead, V.dead, V.dead, V.dead, V.dead, V.dead, V.dead, V.dead, V.dead, V.dead, V.dead, V.dead, V.dead,
 V.dead, V.dead, V.dead, V.dead, V.dead, V.dead, V.dead, V.dead, V.dead, V.dead, V.dead, V.dead, V.dead, V.dead]
noncomputable def Sw_markRowS (a0 : List Rw) (a1 : Int) : Option ((Int × PUnit) × List Rw × PUnit) := Fw_markRowS.sem (a0, a1, ())
def jw_markRowS : List (Nat × List Nat) := [(1000002, [1, 0, 1, 0])]
theorem jw_markRowS_ok : okB jw_markRowS (Try.f106.body.getD .skip) [] = true := by kernel_rfl
theorem Lw_markRowS_2_eq (x0 : List Rw) (x1 : Int) (x5 : Int) : Lw_markRowS_2 x0 x1 x5 =
  bif decide (x5 < (↑x0.length : Int)) then
 (Sw_markText x1).bind fun y =>
  (getI x0 x5).bind fun y_1 =>
   (getI x0 x5).bind fun y_2 =>
    (getI x0 x5).bind fun y_3 =>
     (some (x0.set x5.toNat (y.fst.fst, y_3.snd))).bind fun y =>
      (getI y x5).bind fun y_4 =>
       (getI y x5).bind fun y_5 =>
        (getI y x5).bind fun y_6 =>
         (some (y.set x5.toNat (y_6.fst, IntKind.i64.wrap (x1 + 1), y_6.snd.snd))).bind fun y =>
          (getI y x5).bind fun y_7 =>
           (getI y x5).bind fun y_8 =>
            (getI y x5).bind fun y_9 =>
             (Sw_markAtomS y_9.snd.snd (IntKind.i64.wrap (IntKind.i64.wrap (x1 + 1) + 1))).bind fun y_10 =>
              (getI y x5).bind fun y_11 =>
               (some (y.set x5.toNat (y_11.fst, y_11.snd.fst, y_10.snd.fst))).bind fun y =>
                Lw_markRowS_2 y y_10.fst.fst (IntKind.i64.wrap (x5 + 1))
else some ((x1, ()), x0, ()) := (turn_eq jw_markRowS_ok [1, 0, 1, 0] (by kernel_rfl) _).trans (by kernel_rfl)
theorem Sw_markRowS_eq (a0 : List Rw) (a1 : Int) : Sw_markRowS a0 a1 =
  Lw_markRowS_2 a0 a1 0 := (Eq.trans (by kernel_rfl : Sw_markRowS a0 a1 = denK Ew_markRowS (Try.f106.body.getD .skip) Kw_markRowS (slots0 37 [(ty70, Mode.mut 3), (ty3, Mode.ro)] (a0, a1, ()))) (all_eq jw_markRowS_ok _)).trans (by kernel_rfl)
noncomputable def Ew_markRelationS : Env := mkEnv C tab_w_markRowS [0, 1, 2, 3, 5, 12, 16, 20, 23, 27, 29, 30] 35 (fun k => bif k == 1000002 then some 35 else none)
 (Hints.mk (fun x x_1 => none) (fun s => Nat.testBit 0 s) fun x => []) [(ty44, Mode.mut 4), (ty3, Mode.ro)]
noncomputable def Kw_markRelationS := endK C [(ty44, Mode.mut 4), (ty3, Mode.ro)] [(ty3, 0)] [RV.tmp 4]
noncomputable def Lw_markRelationS_2 (x0 : List Rel) (x1 : Int) (x5 : Int) : Option ((Int × PUnit) × List Rel × PUnit) := loopAt Ew_markRelationS [1, 0, 1, 0] (Try.f78.body.getD .skip) Kw_markRelationS [V.d none 4 ty44 x0, V.d none 0 ty3 x1, V.dead, V.dead, V.dead, V.d none 0 (Ty.int IntKind.i64) x5, V.dead, V.dead,
 V.dead, V.dead, V.dead, V.dead, V.dead, V.dead, V.dead, V.dead, V.dead, V.dead, V.dead, V.dead, V.dead, V.dead, V.dead,
 V.dead, V.dead, V.dead, V.dead, V.dead, V.dead, V.dead, V.dead, V.dead, V.dead, V.dead, V.dead]
noncomputable def Sw_markRelationS (a0 : List Rel) (a1 : Int) : Option ((Int × PUnit) × List Rel × PUnit) := Fw_markRelationS.sem (a0, a1, ())
def jw_markRelationS : List (Nat × List Nat) := [(1000002, [1, 0, 1, 0])]
theorem jw_markRelationS_ok : okB jw_markRelationS (Try.f78.body.getD .skip) [] = true := by kernel_rfl
theorem Lw_markRelationS_2_eq (x0 : List Rel) (x1 : Int) (x5 : Int) : Lw_markRelationS_2 x0 x1 x5 =
  bif decide (x5 < (↑x0.length : Int)) then
 (Sw_markText x1).bind fun y =>
  (getI x0 x5).bind fun y_1 =>
   (getI x0 x5).bind fun y_2 =>
    (getI x0 x5).bind fun y_3 =>
     (some (x0.set x5.toNat (y.fst.fst, y_3.snd))).bind fun y =>
      (getI y x5).bind fun y_4 =>
       (getI y x5).bind fun y_5 =>
        (getI y x5).bind fun y_6 =>
         (some (y.set x5.toNat (y_6.fst, IntKind.i64.wrap (x1 + 1), y_6.snd.snd))).bind fun y =>
          (getI y x5).bind fun y_7 =>
           (getI y x5).bind fun y_8 =>
            (getI y x5).bind fun y_9 =>
             (Sw_markRowS y_9.snd.snd (IntKind.i64.wrap (IntKind.i64.wrap (x1 + 1) + 1))).bind fun y_10 =>
              (getI y x5).bind fun y_11 =>
               (some (y.set x5.toNat (y_11.fst, y_11.snd.fst, y_10.snd.fst))).bind fun y =>
                Lw_markRelationS_2 y y_10.fst.fst (IntKind.i64.wrap (x5 + 1))
else some ((x1, ()), x0, ()) := (turn_eq jw_markRelationS_ok [1, 0, 1, 0] (by kernel_rfl) _).trans (by kernel_rfl)
theorem Sw_markRelationS_eq (a0 : List Rel) (a1 : Int) : Sw_markRelationS a0 a1 =
  Lw_markRelationS_2 a0 a1 0 := (Eq.trans (by kernel_rfl : Sw_markRelationS a0 a1 = denK Ew_markRelationS (Try.f78.body.getD .skip) Kw_markRelationS (slots0 35 [(ty44, Mode.mut 4), (ty3, Mode.ro)] (a0, a1, ()))) (all_eq jw_markRelationS_ok _)).trans (by kernel_rfl)
noncomputable def Ew_markRelationSS : Env := mkEnv C tab_w_markRelationS [0, 1, 2, 3, 5, 12, 14] 19 (fun k => bif k == 1000002 then some 35 else none)
 (Hints.mk (fun x x_1 => none) (fun s => Nat.testBit 0 s) fun x => []) [(ty26, Mode.mut 5), (ty3, Mode.ro)]
noncomputable def Kw_markRelationSS := endK C [(ty26, Mode.mut 5), (ty3, Mode.ro)] [(ty3, 0)] [RV.tmp 4]
noncomputable def Lw_markRelationSS_2 (x0 : List (List Rel)) (x1 : Int) (x5 : Int) : Option ((Int × PUnit) × List (List Rel) × PUnit) := loopAt Ew_markRelationSS [1, 0, 1, 0] (Try.f46.body.getD .skip) Kw_markRelationSS [V.d none 5 ty26 x0, V.d none 0 ty3 x1, V.dead, V.dead, V.dead, V.d none 0 (Ty.int IntKind.i64) x5, V.dead, V.dead,
 V.dead, V.dead, V.dead, V.dead, V.dead, V.dead, V.dead, V.dead, V.dead, V.dead, V.dead]
noncomputable def Sw_markRelationSS (a0 : List (List Rel)) (a1 : Int) : Option ((Int × PUnit) × List (List Rel) × PUnit) := Fw_markRelationSS.sem (a0, a1, ())
def jw_markRelationSS : List (Nat × List Nat) := [(1000002, [1, 0, 1, 0])]
theorem jw_markRelationSS_ok : okB jw_markRelationSS (Try.f46.body.getD .skip) [] = true := by kernel_rfl
theorem Lw_markRelationSS_2_eq (x0 : List (List Rel)) (x1 : Int) (x5 : Int) : Lw_markRelationSS_2 x0 x1 x5 =
  bif decide (x5 < (↑x0.length : Int)) then
 (getI x0 x5).bind fun y =>
  (getI x0 x5).bind fun y =>
   (getI x0 x5).bind fun y =>
    (Sw_markRelationS y x1).bind fun y =>
     (getI x0 x5).bind fun y_1 =>
      (some (x0.set x5.toNat y.snd.fst)).bind fun y_2 => Lw_markRelationSS_2 y_2 y.fst.fst (IntKind.i64.wrap (x5 + 1))
else some ((x1, ()), x0, ()) := (turn_eq jw_markRelationSS_ok [1, 0, 1, 0] (by kernel_rfl) _).trans (by kernel_rfl)
theorem Sw_markRelationSS_eq (a0 : List (List Rel)) (a1 : Int) : Sw_markRelationSS a0 a1 =
  Lw_markRelationSS_2 a0 a1 0 := (Eq.trans (by kernel_rfl : Sw_markRelationSS a0 a1 = denK Ew_markRelationSS (Try.f46.body.getD .skip) Kw_markRelationSS (slots0 19 [(ty26, Mode.mut 5), (ty3, Mode.ro)] (a0, a1, ()))) (all_eq jw_markRelationSS_ok _)).trans (by kernel_rfl)
noncomputable def Ew_markStore : Env := mkEnv C tab_w_markRelationSS [0, 1, 2, 3, 5, 9] 14 (fun x => none)
 (Hints.mk (fun x x_1 => none) (fun s => Nat.testBit 4 s) fun r => bif r == 2 then [6, 10] else [])
 [(ty28, Mode.mut 5), (ty3, Mode.ro)]
noncomputable def Kw_markStore := endK C [(ty28, Mode.mut 5), (ty3, Mode.ro)] [(ty3, 0)] [RV.tmp 4]
noncomputable def Sw_markStore (a0 : Sto) (a1 : Int) : Option ((Int × PUnit) ×
 Sto ×
  PUnit) := Fw_markStore.sem (a0, a1, ())
theorem Sw_markStore_eq (a0 : Sto) (a1 : Int) : Sw_markStore a0 a1 =
  (Sw_markNodeSS a0.fst a1).bind fun y =>
 (Sw_markRelationSS a0.snd y.fst.fst).bind fun y_1 => some ((y_1.fst.fst, ()), (y.snd.fst, y_1.snd.fst), ()) := by kernel_rfl
noncomputable def Ew_heldIntS : Env := mkEnv C tab_w_markHouse [0, 1, 2, 3, 5, 12, 14] 21 (fun k => bif k == 1000002 then some 35 else none)
 (Hints.mk (fun x x_1 => none) (fun s => Nat.testBit 0 s) fun x => []) [(ty23, Mode.ro), (ty3, Mode.ro)]
noncomputable def Kw_heldIntS := endK C [(ty23, Mode.ro), (ty3, Mode.ro)] [(ty3, 0)] [RV.tmp 4]
noncomputable def Lw_heldIntS_2 (x0 : List Int) (x1 : Int) (x5 : Int) : Option ((Int × PUnit) × PUnit) := loopAt Ew_heldIntS [1, 0, 1, 0] (Try.f96.body.getD .skip) Kw_heldIntS [V.d none 0 ty23 x0, V.d none 0 ty3 x1, V.dead, V.dead, V.dead, V.d none 0 (Ty.int IntKind.i64) x5, V.dead, V.dead,
 V.dead, V.dead, V.dead, V.dead, V.dead, V.dead, V.dead, V.dead, V.dead, V.dead, V.dead, V.dead, V.dead]
noncomputable def Sw_heldIntS (a0 : List Int) (a1 : Int) : Option ((Int × PUnit) × PUnit) := Fw_heldIntS.sem (a0, a1, ())
def jw_heldIntS : List (Nat × List Nat) := [(1000002, [1, 0, 1, 0])]
theorem jw_heldIntS_ok : okB jw_heldIntS (Try.f96.body.getD .skip) [] = true := by kernel_rfl
theorem Lw_heldIntS_2_eq (x0 : List Int) (x1 : Int) (x5 : Int) : Lw_heldIntS_2 x0 x1 x5 =
  bif decide (x5 < (↑x0.length : Int)) then
 (getI x0 x5).bind fun y =>
  bif y != x1 then some ((-1, ()), ()) else Lw_heldIntS_2 x0 (IntKind.i64.wrap (x1 + 1)) (IntKind.i64.wrap (x5 + 1))
else some ((x1, ()), ()) := (turn_eq jw_heldIntS_ok [1, 0, 1, 0] (by kernel_rfl) _).trans (by kernel_rfl)
theorem Sw_heldIntS_eq (a0 : List Int) (a1 : Int) : Sw_heldIntS a0 a1 =
  Lw_heldIntS_2 a0 a1 0 := (Eq.trans (by kernel_rfl : Sw_heldIntS a0 a1 = denK Ew_heldIntS (Try.f96.body.getD .skip) Kw_heldIntS (slots0 21 [(ty23, Mode.ro), (ty3, Mode.ro)] (a0, a1, ()))) (all_eq jw_heldIntS_ok _)).trans (by kernel_rfl)
noncomputable def Ew_heldNodeS : Env := mkEnv C tab_w_heldIntS
 (have y :=
  have y :=
   have y := [93, 94, 100, 102, 103];
   76 :: 82 :: 84 :: 85 :: 91 :: y;
  have y := 63 :: 65 :: 66 :: 73 :: 75 :: y;
  45 :: 53 :: 55 :: 56 :: y;
 have y :=
  have y := 34 :: 35 :: 41 :: 43 :: 44 :: y;
  23 :: 24 :: 25 :: 31 :: 33 :: y;
 have y := 5 :: 12 :: 14 :: 15 :: 21 :: y;
 0 :: 1 :: 2 :: 3 :: y)
 110 (fun k => bif k == 1000002 then some 35 else none)
 (Hints.mk (fun x x_1 => none) (fun s => Nat.testBit 0 s) fun x => []) [(ty46, Mode.ro), (ty3, Mode.ro)]
noncomputable def Kw_heldNodeS := endK C [(ty46, Mode.ro), (ty3, Mode.ro)] [(ty3, 0)] [RV.tmp 4]
noncomputable def Lw_heldNodeS_2 (x0 : List Nod) (x1 : Int) (x5 : Int) : Option ((Int × PUnit) × PUnit) := loopAt Ew_heldNodeS [1, 0, 1, 0] (Try.f79.body.getD .skip) Kw_heldNodeS [V.d none 0 ty46 x0, V.d none 0 ty3 x1, V.dead, V.dead, V.dead, V.d none 0 (Ty.int IntKind.i64) x5, V.dead, V.dead,
 V.dead, V.dead, V.dead, V.dead, V.dead, V.dead, V.dead, V.dead, V.dead, V.dead, V.dead, V.dead, V.dead, V.dead, V.dead,
 V.dead, V.dead, V.dead, V.dead, V.dead, V.dead, V.dead, V.dead, V.dead, V.dead, V.dead, V.dead, V.dead, V.dead, V.dead,
 V.dead, V.dead, V.dead, V.dead, V.dead, V.dead, V.dead, V.dead, V.dead, V.dead, V.dead, V.dead, V.dead, V.dead, V.dead,
 V.dead, V.dead, V.dead, V.dead, V.dead, V.dead, V.dead, V.dead, V.dead, V.dead, V.dead, V.dead, V.dead, V.dead, V.dead,
 V.dead, V.dead, V.dead, V.dead, V.dead, V.dead, V.dead, V.dead, V.dead, V.dead, V.dead, V.dead, V.dead, V.dead, V.dead,
 V.dead, V.dead, V.dead, V.dead, V.dead, V.dead, V.dead, V.dead, V.dead, V.dead, V.dead, V.dead, V.dead, V.dead, V.dead,
 V.dead, V.dead, V.dead, V.dead, V.dead, V.dead, V.dead, V.dead, V.dead, V.dead, V.dead, V.dead]
noncomputable def Sw_heldNodeS (a0 : List Nod) (a1 : Int) : Option ((Int × PUnit) × PUnit) := Fw_heldNodeS.sem (a0, a1, ())
def jw_heldNodeS : List (Nat × List Nat) := [(1000002, [1, 0, 1, 0])]
theorem jw_heldNodeS_ok : okB jw_heldNodeS (Try.f79.body.getD .skip) [] = true := by kernel_rfl
theorem Lw_heldNodeS_2_eq (x0 : List Nod) (x1 : Int) (x5 : Int) : Lw_heldNodeS_2 x0 x1 x5 =
  bif decide (x5 < (↑x0.length : Int)) then
 (getI x0 x5).bind fun y =>
  bif y.fst != x1 then some ((-1, ()), ())
  else
   (getI x0 x5).bind fun y =>
    (Sw_heldIntS y.snd.fst.fst (IntKind.i64.wrap (x1 + 1))).bind fun y =>
     bif decide (y.fst.fst < 0) then some ((-1, ()), ())
     else
      (getI x0 x5).bind fun y_1 =>
       bif y_1.snd.fst.snd.fst != y.fst.fst then some ((-1, ()), ())
       else
        (getI x0 x5).bind fun y_2 =>
         bif !y_2.snd.fst.snd.snd == ((IntKind.i64.wrap (y.fst.fst + 1)).tmod 3 == 0) then some ((-1, ()), ())
         else
          (getI x0 x5).bind fun y_3 =>
           (Sw_markText (IntKind.i64.wrap (IntKind.i64.wrap (y.fst.fst + 1) + 1))).bind fun y_4 =>
            bif !ByteArray.toList y_3.snd.snd.fst == ByteArray.toList y_4.fst.fst then some ((-1, ()), ())
            else
             (getI x0 x5).bind fun y_5 =>
              (Sw_markText (IntKind.i64.wrap (IntKind.i64.wrap (IntKind.i64.wrap (y.fst.fst + 1) + 1) + 1))).bind
               fun y_6 =>
               bif !ByteArray.toList y_5.snd.snd.snd.fst == ByteArray.toList y_6.fst.fst then some ((-1, ()), ())
               else
                (getI x0 x5).bind fun y_7 =>
                 (Sw_heldIntS y_7.snd.snd.snd.snd.fst
                    (IntKind.i64.wrap
                     (IntKind.i64.wrap (IntKind.i64.wrap (IntKind.i64.wrap (y.fst.fst + 1) + 1) + 1) + 1))).bind
                  fun y =>
                  bif decide (y.fst.fst < 0) then some ((-1, ()), ())
                  else
                   (getI x0 x5).bind fun y_8 =>
                    bif y_8.snd.snd.snd.snd.snd.fst != y.fst.fst then some ((-1, ()), ())
                    else
                     (getI x0 x5).bind fun y_9 =>
                      bif y_9.snd.snd.snd.snd.snd.snd.fst != IntKind.i64.wrap (y.fst.fst + 1) then some ((-1, ()), ())
                      else
                       (getI x0 x5).bind fun y_10 =>
                        bif
                          y_10.snd.snd.snd.snd.snd.snd.snd !=
                           IntKind.i64.wrap (IntKind.i64.wrap (y.fst.fst + 1) + 1) then
                         some ((-1, ()), ())
                        else
                         Lw_heldNodeS_2 x0
                          (IntKind.i64.wrap (IntKind.i64.wrap (IntKind.i64.wrap (y.fst.fst + 1) + 1) + 1))
                          (IntKind.i64.wrap (x5 + 1))
else some ((x1, ()), ()) := (turn_eq jw_heldNodeS_ok [1, 0, 1, 0] (by kernel_rfl) _).trans (by kernel_rfl)
theorem Sw_heldNodeS_eq (a0 : List Nod) (a1 : Int) : Sw_heldNodeS a0 a1 =
  Lw_heldNodeS_2 a0 a1 0 := (Eq.trans (by kernel_rfl : Sw_heldNodeS a0 a1 = denK Ew_heldNodeS (Try.f79.body.getD .skip) Kw_heldNodeS (slots0 110 [(ty46, Mode.ro), (ty3, Mode.ro)] (a0, a1, ()))) (all_eq jw_heldNodeS_ok _)).trans (by kernel_rfl)
noncomputable def Ew_heldNodeSS : Env := mkEnv C tab_w_heldNodeS [0, 1, 2, 3, 5, 12, 14] 21 (fun k => bif k == 1000002 then some 35 else none)
 (Hints.mk (fun x x_1 => none) (fun s => Nat.testBit 0 s) fun x => []) [(ty25, Mode.ro), (ty3, Mode.ro)]
noncomputable def Kw_heldNodeSS := endK C [(ty25, Mode.ro), (ty3, Mode.ro)] [(ty3, 0)] [RV.tmp 4]
noncomputable def Lw_heldNodeSS_2 (x0 : List (List Nod)) (x1 : Int) (x5 : Int) : Option ((Int × PUnit) × PUnit) := loopAt Ew_heldNodeSS [1, 0, 1, 0] (Try.f47.body.getD .skip) Kw_heldNodeSS [V.d none 0 ty25 x0, V.d none 0 ty3 x1, V.dead, V.dead, V.dead, V.d none 0 (Ty.int IntKind.i64) x5, V.dead, V.dead,
 V.dead, V.dead, V.dead, V.dead, V.dead, V.dead, V.dead, V.dead, V.dead, V.dead, V.dead, V.dead, V.dead]
noncomputable def Sw_heldNodeSS (a0 : List (List Nod)) (a1 : Int) : Option ((Int × PUnit) × PUnit) := Fw_heldNodeSS.sem (a0, a1, ())
def jw_heldNodeSS : List (Nat × List Nat) := [(1000002, [1, 0, 1, 0])]
theorem jw_heldNodeSS_ok : okB jw_heldNodeSS (Try.f47.body.getD .skip) [] = true := by kernel_rfl
theorem Lw_heldNodeSS_2_eq (x0 : List (List Nod)) (x1 : Int) (x5 : Int) : Lw_heldNodeSS_2 x0 x1 x5 =
  bif decide (x5 < (↑x0.length : Int)) then
 (getI x0 x5).bind fun y =>
  (Sw_heldNodeS y x1).bind fun y =>
   bif decide (y.fst.fst < 0) then some ((-1, ()), ()) else Lw_heldNodeSS_2 x0 y.fst.fst (IntKind.i64.wrap (x5 + 1))
else some ((x1, ()), ()) := (turn_eq jw_heldNodeSS_ok [1, 0, 1, 0] (by kernel_rfl) _).trans (by kernel_rfl)
theorem Sw_heldNodeSS_eq (a0 : List (List Nod)) (a1 : Int) : Sw_heldNodeSS a0 a1 =
  Lw_heldNodeSS_2 a0 a1 0 := (Eq.trans (by kernel_rfl : Sw_heldNodeSS a0 a1 = denK Ew_heldNodeSS (Try.f47.body.getD .skip) Kw_heldNodeSS (slots0 21 [(ty25, Mode.ro), (ty3, Mode.ro)] (a0, a1, ()))) (all_eq jw_heldNodeSS_ok _)).trans (by kernel_rfl)
noncomputable def Ew_heldAtomS : Env := mkEnv C tab_w_heldNodeSS [0, 1, 2, 3, 5, 12, 14, 15, 21, 23, 24, 30, 32, 33] 42
 (fun k => bif k == 1000002 then some 35 else none)
 (Hints.mk (fun x x_1 => none) (fun s => Nat.testBit 0 s) fun x => []) [(ty102, Mode.ro), (ty3, Mode.ro)]
noncomputable def Kw_heldAtomS := endK C [(ty102, Mode.ro), (ty3, Mode.ro)] [(ty3, 0)] [RV.tmp 4]
noncomputable def Lw_heldAtomS_2 (x0 : List Atm) (x1 : Int) (x5 : Int) : Option ((Int × PUnit) × PUnit) := loopAt Ew_heldAtomS [1, 0, 1, 0] (Try.f95.body.getD .skip) Kw_heldAtomS [V.d none 0 ty102 x0, V.d none 0 ty3 x1, V.dead, V.dead, V.dead, V.d none 0 (Ty.int IntKind.i64) x5, V.dead, V.dead,
 V.dead, V.dead, V.dead, V.dead, V.dead, V.dead, V.dead, V.dead, V.dead, V.dead, V.dead, V.dead, V.dead, V.dead, V.dead,
 V.dead, V.dead, V.dead, V.dead, V.dead, V.dead, V.dead, V.dead, V.dead, V.dead, V.dead, V.dead, V.dead, V.dead, V.dead,
 V.dead, V.dead, V.dead, V.dead]
noncomputable def Sw_heldAtomS (a0 : List Atm) (a1 : Int) : Option ((Int × PUnit) × PUnit) := Fw_heldAtomS.sem (a0, a1, ())
def jw_heldAtomS : List (Nat × List Nat) := [(1000002, [1, 0, 1, 0])]
theorem jw_heldAtomS_ok : okB jw_heldAtomS (Try.f95.body.getD .skip) [] = true := by kernel_rfl
theorem Lw_heldAtomS_2_eq (x0 : List Atm) (x1 : Int) (x5 : Int) : Lw_heldAtomS_2 x0 x1 x5 =
  bif decide (x5 < (↑x0.length : Int)) then
 (getI x0 x5).bind fun y =>
  (Sw_heldIntS y.fst x1).bind fun y =>
   bif decide (y.fst.fst < 0) then some ((-1, ()), ())
   else
    (getI x0 x5).bind fun y_1 =>
     bif y_1.snd.fst != y.fst.fst then some ((-1, ()), ())
     else
      (getI x0 x5).bind fun y_2 =>
       bif !y_2.snd.snd == ((IntKind.i64.wrap (y.fst.fst + 1)).tmod 3 == 0) then some ((-1, ()), ())
       else Lw_heldAtomS_2 x0 (IntKind.i64.wrap (IntKind.i64.wrap (y.fst.fst + 1) + 1)) (IntKind.i64.wrap (x5 + 1))
else some ((x1, ()), ()) := (turn_eq jw_heldAtomS_ok [1, 0, 1, 0] (by kernel_rfl) _).trans (by kernel_rfl)
theorem Sw_heldAtomS_eq (a0 : List Atm) (a1 : Int) : Sw_heldAtomS a0 a1 =
  Lw_heldAtomS_2 a0 a1 0 := (Eq.trans (by kernel_rfl : Sw_heldAtomS a0 a1 = denK Ew_heldAtomS (Try.f95.body.getD .skip) Kw_heldAtomS (slots0 42 [(ty102, Mode.ro), (ty3, Mode.ro)] (a0, a1, ()))) (all_eq jw_heldAtomS_ok _)).trans (by kernel_rfl)
noncomputable def Ew_heldRowS : Env := mkEnv C tab_w_heldAtomS [0, 1, 2, 3, 5, 12, 14, 15, 22, 24, 25, 26, 32, 34, 35, 36] 43
 (fun k => bif k == 1000002 then some 35 else none)
 (Hints.mk (fun x x_1 => none) (fun s => Nat.testBit 0 s) fun x => []) [(ty70, Mode.ro), (ty3, Mode.ro)]
noncomputable def Kw_heldRowS := endK C [(ty70, Mode.ro), (ty3, Mode.ro)] [(ty3, 0)] [RV.tmp 4]
noncomputable def Lw_heldRowS_2 (x0 : List Rw) (x1 : Int) (x5 : Int) : Option ((Int × PUnit) × PUnit) := loopAt Ew_heldRowS [1, 0, 1, 0] (Try.f107.body.getD .skip) Kw_heldRowS [V.d none 0 ty70 x0, V.d none 0 ty3 x1, V.dead, V.dead, V.dead, V.d none 0 (Ty.int IntKind.i64) x5, V.dead, V.dead,
 V.dead, V.dead, V.dead, V.dead, V.dead, V.dead, V.dead, V.dead, V.dead, V.dead, V.dead, V.dead, V.dead, V.dead, V.dead,
 V.dead, V.dead, V.dead, V.dead, V.dead, V.dead, V.dead, V.dead, V.dead, V.dead, V.dead, V.dead, V.dead, V.dead, V.dead,
 V.dead, V.dead, V.dead, V.dead, V.dead]
noncomputable def Sw_heldRowS (a0 : List Rw) (a1 : Int) : Option ((Int × PUnit) × PUnit) := Fw_heldRowS.sem (a0, a1, ())
def jw_heldRowS : List (Nat × List Nat) := [(1000002, [1, 0, 1, 0])]
theorem jw_heldRowS_ok : okB jw_heldRowS (Try.f107.body.getD .skip) [] = true := by kernel_rfl
theorem Lw_heldRowS_2_eq (x0 : List Rw) (x1 : Int) (x5 : Int) : Lw_heldRowS_2 x0 x1 x5 =
  bif decide (x5 < (↑x0.length : Int)) then
 (getI x0 x5).bind fun y =>
  (Sw_markText x1).bind fun y_1 =>
   bif !ByteArray.toList y.fst == ByteArray.toList y_1.fst.fst then some ((-1, ()), ())
   else
    (getI x0 x5).bind fun y =>
     bif y.snd.fst != IntKind.i64.wrap (x1 + 1) then some ((-1, ()), ())
     else
      (getI x0 x5).bind fun y =>
       (Sw_heldAtomS y.snd.snd (IntKind.i64.wrap (IntKind.i64.wrap (x1 + 1) + 1))).bind fun y =>
        bif decide (y.fst.fst < 0) then some ((-1, ()), ()) else Lw_heldRowS_2 x0 y.fst.fst (IntKind.i64.wrap (x5 + 1))
else some ((x1, ()), ()) := (turn_eq jw_heldRowS_ok [1, 0, 1, 0] (by kernel_rfl) _).trans (by kernel_rfl)
theorem Sw_heldRowS_eq (a0 : List Rw) (a1 : Int) : Sw_heldRowS a0 a1 =
  Lw_heldRowS_2 a0 a1 0 := (Eq.trans (by kernel_rfl : Sw_heldRowS a0 a1 = denK Ew_heldRowS (Try.f107.body.getD .skip) Kw_heldRowS (slots0 43 [(ty70, Mode.ro), (ty3, Mode.ro)] (a0, a1, ()))) (all_eq jw_heldRowS_ok _)).trans (by kernel_rfl)
noncomputable def Ew_heldRelationS : Env := mkEnv C tab_w_heldRowS [0, 1, 2, 3, 5, 12, 14, 15, 22, 24, 25, 31, 33, 34] 41
 (fun k => bif k == 1000002 then some 35 else none)
 (Hints.mk (fun x x_1 => none) (fun s => Nat.testBit 0 s) fun x => []) [(ty44, Mode.ro), (ty3, Mode.ro)]
noncomputable def Kw_heldRelationS := endK C [(ty44, Mode.ro), (ty3, Mode.ro)] [(ty3, 0)] [RV.tmp 4]
noncomputable def Lw_heldRelationS_2 (x0 : List Rel) (x1 : Int) (x5 : Int) : Option ((Int × PUnit) × PUnit) := loopAt Ew_heldRelationS [1, 0, 1, 0] (Try.f80.body.getD .skip) Kw_heldRelationS [V.d none 0 ty44 x0, V.d none 0 ty3 x1, V.dead, V.dead, V.dead, V.d none 0 (Ty.int IntKind.i64) x5, V.dead, V.dead,
 V.dead, V.dead, V.dead, V.dead, V.dead, V.dead, V.dead, V.dead, V.dead, V.dead, V.dead, V.dead, V.dead, V.dead, V.dead,
 V.dead, V.dead, V.dead, V.dead, V.dead, V.dead, V.dead, V.dead, V.dead, V.dead, V.dead, V.dead, V.dead, V.dead, V.dead,
 V.dead, V.dead, V.dead]
noncomputable def Sw_heldRelationS (a0 : List Rel) (a1 : Int) : Option ((Int × PUnit) × PUnit) := Fw_heldRelationS.sem (a0, a1, ())
def jw_heldRelationS : List (Nat × List Nat) := [(1000002, [1, 0, 1, 0])]
theorem jw_heldRelationS_ok : okB jw_heldRelationS (Try.f80.body.getD .skip) [] = true := by kernel_rfl
theorem Lw_heldRelationS_2_eq (x0 : List Rel) (x1 : Int) (x5 : Int) : Lw_heldRelationS_2 x0 x1 x5 =
  bif decide (x5 < (↑x0.length : Int)) then
 (getI x0 x5).bind fun y =>
  (Sw_markText x1).bind fun y_1 =>
   bif !ByteArray.toList y.fst == ByteArray.toList y_1.fst.fst then some ((-1, ()), ())
   else
    (getI x0 x5).bind fun y =>
     bif y.snd.fst != IntKind.i64.wrap (x1 + 1) then some ((-1, ()), ())
     else
      (getI x0 x5).bind fun y =>
       (Sw_heldRowS y.snd.snd (IntKind.i64.wrap (IntKind.i64.wrap (x1 + 1) + 1))).bind fun y =>
        bif decide (y.fst.fst < 0) then some ((-1, ()), ())
        else Lw_heldRelationS_2 x0 y.fst.fst (IntKind.i64.wrap (x5 + 1))
else some ((x1, ()), ()) := (turn_eq jw_heldRelationS_ok [1, 0, 1, 0] (by kernel_rfl) _).trans (by kernel_rfl)
theorem Sw_heldRelationS_eq (a0 : List Rel) (a1 : Int) : Sw_heldRelationS a0 a1 =
  Lw_heldRelationS_2 a0 a1 0 := (Eq.trans (by kernel_rfl : Sw_heldRelationS a0 a1 = denK Ew_heldRelationS (Try.f80.body.getD .skip) Kw_heldRelationS (slots0 41 [(ty44, Mode.ro), (ty3, Mode.ro)] (a0, a1, ()))) (all_eq jw_heldRelationS_ok _)).trans (by kernel_rfl)
noncomputable def Ew_heldRelationSS : Env := mkEnv C tab_w_heldRelationS [0, 1, 2, 3, 5, 12, 14] 21 (fun k => bif k == 1000002 then some 35 else none)
 (Hints.mk (fun x x_1 => none) (fun s => Nat.testBit 0 s) fun x => []) [(ty26, Mode.ro), (ty3, Mode.ro)]
noncomputable def Kw_heldRelationSS := endK C [(ty26, Mode.ro), (ty3, Mode.ro)] [(ty3, 0)] [RV.tmp 4]
noncomputable def Lw_heldRelationSS_2 (x0 : List (List Rel)) (x1 : Int) (x5 : Int) : Option ((Int × PUnit) × PUnit) := loopAt Ew_heldRelationSS [1, 0, 1, 0] (Try.f48.body.getD .skip) Kw_heldRelationSS [V.d none 0 ty26 x0, V.d none 0 ty3 x1, V.dead, V.dead, V.dead, V.d none 0 (Ty.int IntKind.i64) x5, V.dead, V.dead,
 V.dead, V.dead, V.dead, V.dead, V.dead, V.dead, V.dead, V.dead, V.dead, V.dead, V.dead, V.dead, V.dead]
noncomputable def Sw_heldRelationSS (a0 : List (List Rel)) (a1 : Int) : Option ((Int × PUnit) × PUnit) := Fw_heldRelationSS.sem (a0, a1, ())
def jw_heldRelationSS : List (Nat × List Nat) := [(1000002, [1, 0, 1, 0])]
theorem jw_heldRelationSS_ok : okB jw_heldRelationSS (Try.f48.body.getD .skip) [] = true := by kernel_rfl
theorem Lw_heldRelationSS_2_eq (x0 : List (List Rel)) (x1 : Int) (x5 : Int) : Lw_heldRelationSS_2 x0 x1 x5 =
  bif decide (x5 < (↑x0.length : Int)) then
 (getI x0 x5).bind fun y =>
  (Sw_heldRelationS y x1).bind fun y =>
   bif decide (y.fst.fst < 0) then some ((-1, ()), ()) else Lw_heldRelationSS_2 x0 y.fst.fst (IntKind.i64.wrap (x5 + 1))
else some ((x1, ()), ()) := (turn_eq jw_heldRelationSS_ok [1, 0, 1, 0] (by kernel_rfl) _).trans (by kernel_rfl)
theorem Sw_heldRelationSS_eq (a0 : List (List Rel)) (a1 : Int) : Sw_heldRelationSS a0 a1 =
  Lw_heldRelationSS_2 a0 a1 0 := (Eq.trans (by kernel_rfl : Sw_heldRelationSS a0 a1 = denK Ew_heldRelationSS (Try.f48.body.getD .skip) Kw_heldRelationSS (slots0 21 [(ty26, Mode.ro), (ty3, Mode.ro)] (a0, a1, ()))) (all_eq jw_heldRelationSS_ok _)).trans (by kernel_rfl)
noncomputable def Ew_heldStore : Env := mkEnv C tab_w_heldRelationSS [0, 1, 2, 3, 5, 11] 18 (fun x => none)
 (Hints.mk (fun x x_1 => none) (fun s => Nat.testBit 4 s) fun r => bif r == 2 then [6, 12] else [])
 [(ty28, Mode.ro), (ty3, Mode.ro)]
noncomputable def Kw_heldStore := endK C [(ty28, Mode.ro), (ty3, Mode.ro)] [(ty3, 0)] [RV.tmp 4]
noncomputable def Sw_heldStore (a0 : Sto) (a1 : Int) : Option ((Int × PUnit) × PUnit) := Fw_heldStore.sem (a0, a1, ())
theorem Sw_heldStore_eq (a0 : Sto) (a1 : Int) : Sw_heldStore a0 a1 =
  (Sw_heldNodeSS a0.fst a1).bind fun y =>
 bif decide (y.fst.fst < 0) then some ((-1, ()), ())
 else
  (Sw_heldRelationSS a0.snd y.fst.fst).bind fun y =>
   bif decide (y.fst.fst < 0) then some ((-1, ()), ()) else some ((y.fst.fst, ()), ()) := by kernel_rfl
noncomputable def Es_NewHouse : Env := mkEnv C tab0 [0] 5 (fun k => bif k == 1 then some 1 else none)
 (Hints.mk (fun x x_1 => none) (fun s => Nat.testBit 1 s) fun r => bif r == 0 then [] else []) []
noncomputable def Ks_NewHouse := endK C [] [(ty54, 5)] [RV.cell 0 54]
noncomputable def Ss_NewHouse  : Option (((Sto ×
   Bool ×
    List Opn ×
     List ByteArray ×
      List
       Viw) ×
  PUnit) ×
 PUnit) := Fs_NewHouse.sem (())
theorem Ss_NewHouse_eq  : Ss_NewHouse  =
  some (((([], [[]]), false, [], [], []), ()), ()) := by kernel_rfl
noncomputable def Ei_NewHouse : Env := mkEnv C tab_i_NewStore [0, 1, 2, 3] 9 (fun k => bif k == 1 then some 1 else bif k == 2 then some 3 else none)
 (Hints.mk (fun d i => bif d == 3 then bif i == 0 then some 5 else bif i == 1 then some 6 else none else none)
  (fun s => Nat.testBit 3 s) fun r => bif r == 0 then [] else bif r == 1 then [7] else [])
 []
noncomputable def Ki_NewHouse := endK C [] [(ty54, 5)] [RV.cell 0 54]
noncomputable def Si_NewHouse  : Option (((Sto ×
   Bool ×
    List Opn ×
     List ByteArray ×
      List
       Viw) ×
  PUnit) ×
 PUnit) := Fi_NewHouse.sem (())
theorem Si_NewHouse_eq  : Si_NewHouse  =
  (Si_NewStore [] []).bind fun y => some (((y.fst.fst, false, [], [], []), ()), ()) := by kernel_rfl
noncomputable def Ew_eqOp : Env := mkEnv C tab_w_eqStore [0, 1, 2, 3, 5, 7, 10, 12, 15, 17, 20, 22, 26, 28] 32 (fun x => none)
 (Hints.mk (fun x x_1 => none) (fun s => Nat.testBit 12 s) fun r =>
  bif r == 2 then [21, 27] else bif r == 3 then [23, 29] else [])
 [(ty132, Mode.ro), (ty132, Mode.ro)]
noncomputable def Kw_eqOp := endK C [(ty132, Mode.ro), (ty132, Mode.ro)] [(ty4, 0)] [RV.tmp 4]
noncomputable def Sw_eqOp (a0 : Int × ByteArray × ByteArray × Cel × List Int) (a1 : Int × ByteArray × ByteArray × Cel × List Int) : Option ((Bool × PUnit) × PUnit) := Fw_eqOp.sem (a0, a1, ())
theorem Sw_eqOp_eq (a0 : Int × ByteArray × ByteArray × Cel × List Int) (a1 : Int × ByteArray × ByteArray × Cel × List Int) : Sw_eqOp a0 a1 =
  bif a0.fst != a1.fst then some ((false, ()), ())
else
 bif !ByteArray.toList a0.snd.fst == ByteArray.toList a1.snd.fst then some ((false, ()), ())
 else
  bif !ByteArray.toList a0.snd.snd.fst == ByteArray.toList a1.snd.snd.fst then some ((false, ()), ())
  else
   (Sw_eqCell a0.snd.snd.snd.fst a1.snd.snd.snd.fst).bind fun y =>
    bif !y.fst.fst then some ((false, ()), ())
    else
     (Sw_eqIntS a0.snd.snd.snd.snd a1.snd.snd.snd.snd).bind fun y =>
      bif !y.fst.fst then some ((false, ()), ()) else some ((true, ()), ()) := by kernel_rfl
noncomputable def Ew_eqOpS : Env := mkEnv C tab_w_eqOp [0, 1, 2, 3, 5, 17, 19, 21, 23] 27 (fun k => bif k == 1000004 then some 35 else none)
 (Hints.mk (fun x x_1 => none) (fun s => Nat.testBit 0 s) fun x => []) [(ty51, Mode.ro), (ty51, Mode.ro)]
noncomputable def Kw_eqOpS := endK C [(ty51, Mode.ro), (ty51, Mode.ro)] [(ty4, 0)] [RV.tmp 4]
noncomputable def Lw_eqOpS_4 (x0 : List Opn) (x1 : List Opn) (x5 : Int) : Option ((Bool × PUnit) × PUnit) := loopAt Ew_eqOpS [1, 1, 0, 1, 0] (Try.f59.body.getD .skip) Kw_eqOpS [V.d none 0 ty51 x0, V.d none 0 ty51 x1, V.dead, V.dead, V.dead, V.d none 0 (Ty.int IntKind.i64) x5, V.dead, V.dead,
 V.dead, V.dead, V.dead, V.dead, V.dead, V.dead, V.dead, V.dead, V.dead, V.dead, V.dead, V.dead, V.dead, V.dead, V.dead,
 V.dead, V.dead, V.dead, V.dead]
noncomputable def Sw_eqOpS (a0 : List Opn) (a1 : List Opn) : Option ((Bool × PUnit) × PUnit) := Fw_eqOpS.sem (a0, a1, ())
def jw_eqOpS : List (Nat × List Nat) := [(1000004, [1, 1, 0, 1, 0])]
theorem jw_eqOpS_ok : okB jw_eqOpS (Try.f59.body.getD .skip) [] = true := by kernel_rfl
theorem Lw_eqOpS_4_eq (x0 : List Opn) (x1 : List Opn) (x5 : Int) : Lw_eqOpS_4 x0 x1 x5 =
  bif decide (x5 < (↑x0.length : Int)) then
 (getI x0 x5).bind fun y =>
  (getI x1 x5).bind fun y_1 =>
   (Sw_eqOp y y_1).bind fun y =>
    bif !y.fst.fst then some ((false, ()), ()) else Lw_eqOpS_4 x0 x1 (IntKind.i64.wrap (x5 + 1))
else some ((true, ()), ()) := (turn_eq jw_eqOpS_ok [1, 1, 0, 1, 0] (by kernel_rfl) _).trans (by kernel_rfl)
theorem Sw_eqOpS_eq (a0 : List Opn) (a1 : List Opn) : Sw_eqOpS a0 a1 =
  bif (↑a0.length : Int) != (↑a1.length : Int) then some ((false, ()), ()) else Lw_eqOpS_4 a0 a1 0 := (Eq.trans (by kernel_rfl : Sw_eqOpS a0 a1 = denK Ew_eqOpS (Try.f59.body.getD .skip) Kw_eqOpS (slots0 27 [(ty51, Mode.ro), (ty51, Mode.ro)] (a0, a1, ()))) (all_eq jw_eqOpS_ok _)).trans (by kernel_rfl)
noncomputable def Ew_eqIntSS : Env := mkEnv C tab_w_eqStringS [0, 1, 2, 3, 5, 17, 19, 21, 23] 27 (fun k => bif k == 1000004 then some 35 else none)
 (Hints.mk (fun x x_1 => none) (fun s => Nat.testBit 0 s) fun x => []) [(ty105, Mode.ro), (ty105, Mode.ro)]
noncomputable def Kw_eqIntSS := endK C [(ty105, Mode.ro), (ty105, Mode.ro)] [(ty4, 0)] [RV.tmp 4]
noncomputable def Lw_eqIntSS_4 (x0 : List (List Int)) (x1 : List (List Int)) (x5 : Int) : Option ((Bool × PUnit) × PUnit) := loopAt Ew_eqIntSS [1, 1, 0, 1, 0] (Try.f126.body.getD .skip) Kw_eqIntSS [V.d none 0 ty105 x0, V.d none 0 ty105 x1, V.dead, V.dead, V.dead, V.d none 0 (Ty.int IntKind.i64) x5, V.dead, V.dead,
 V.dead, V.dead, V.dead, V.dead, V.dead, V.dead, V.dead, V.dead, V.dead, V.dead, V.dead, V.dead, V.dead, V.dead, V.dead,
 V.dead, V.dead, V.dead, V.dead]
noncomputable def Sw_eqIntSS (a0 : List (List Int)) (a1 : List (List Int)) : Option ((Bool × PUnit) × PUnit) := Fw_eqIntSS.sem (a0, a1, ())
def jw_eqIntSS : List (Nat × List Nat) := [(1000004, [1, 1, 0, 1, 0])]
theorem jw_eqIntSS_ok : okB jw_eqIntSS (Try.f126.body.getD .skip) [] = true := by kernel_rfl
theorem Lw_eqIntSS_4_eq (x0 : List (List Int)) (x1 : List (List Int)) (x5 : Int) : Lw_eqIntSS_4 x0 x1 x5 =
  bif decide (x5 < (↑x0.length : Int)) then
 (getI x0 x5).bind fun y =>
  (getI x1 x5).bind fun y_1 =>
   (Sw_eqIntS y y_1).bind fun y =>
    bif !y.fst.fst then some ((false, ()), ()) else Lw_eqIntSS_4 x0 x1 (IntKind.i64.wrap (x5 + 1))
else some ((true, ()), ()) := (turn_eq jw_eqIntSS_ok [1, 1, 0, 1, 0] (by kernel_rfl) _).trans (by kernel_rfl)
theorem Sw_eqIntSS_eq (a0 : List (List Int)) (a1 : List (List Int)) : Sw_eqIntSS a0 a1 =
  bif (↑a0.length : Int) != (↑a1.length : Int) then some ((false, ()), ()) else Lw_eqIntSS_4 a0 a1 0 := (Eq.trans (by kernel_rfl : Sw_eqIntSS a0 a1 = denK Ew_eqIntSS (Try.f126.body.getD .skip) Kw_eqIntSS (slots0 27 [(ty105, Mode.ro), (ty105, Mode.ro)] (a0, a1, ()))) (all_eq jw_eqIntSS_ok _)).trans (by kernel_rfl)
noncomputable def Ew_eqSupport : Env := mkEnv C tab_w_eqIntSS [0, 1, 2, 3, 5, 7, 11, 13] 17 (fun x => none)
 (Hints.mk (fun x x_1 => none) (fun s => Nat.testBit 12 s) fun r =>
  bif r == 2 then [6, 12] else bif r == 3 then [8, 14] else [])
 [(ty107, Mode.ro), (ty107, Mode.ro)]
noncomputable def Kw_eqSupport := endK C [(ty107, Mode.ro), (ty107, Mode.ro)] [(ty4, 0)] [RV.tmp 4]
noncomputable def Sw_eqSupport (a0 : Cel × List (List Int)) (a1 : Cel × List (List Int)) : Option ((Bool × PUnit) × PUnit) := Fw_eqSupport.sem (a0, a1, ())
theorem Sw_eqSupport_eq (a0 : Cel × List (List Int)) (a1 : Cel × List (List Int)) : Sw_eqSupport a0 a1 =
  (Sw_eqCell a0.fst a1.fst).bind fun y =>
 bif !y.fst.fst then some ((false, ()), ())
 else (Sw_eqIntSS a0.snd a1.snd).bind fun y => bif !y.fst.fst then some ((false, ()), ()) else some ((true, ()), ()) := by kernel_rfl
noncomputable def Ew_eqSupportS : Env := mkEnv C tab_w_eqSupport [0, 1, 2, 3, 5, 17, 19, 21, 23] 27 (fun k => bif k == 1000004 then some 35 else none)
 (Hints.mk (fun x x_1 => none) (fun s => Nat.testBit 0 s) fun x => []) [(ty64, Mode.ro), (ty64, Mode.ro)]
noncomputable def Kw_eqSupportS := endK C [(ty64, Mode.ro), (ty64, Mode.ro)] [(ty4, 0)] [RV.tmp 4]
noncomputable def Lw_eqSupportS_4 (x0 : List Sup) (x1 : List Sup) (x5 : Int) : Option ((Bool × PUnit) × PUnit) := loopAt Ew_eqSupportS [1, 1, 0, 1, 0] (Try.f72.body.getD .skip) Kw_eqSupportS [V.d none 0 ty64 x0, V.d none 0 ty64 x1, V.dead, V.dead, V.dead, V.d none 0 (Ty.int IntKind.i64) x5, V.dead, V.dead,
 V.dead, V.dead, V.dead, V.dead, V.dead, V.dead, V.dead, V.dead, V.dead, V.dead, V.dead, V.dead, V.dead, V.dead, V.dead,
 V.dead, V.dead, V.dead, V.dead]
noncomputable def Sw_eqSupportS (a0 : List Sup) (a1 : List Sup) : Option ((Bool × PUnit) × PUnit) := Fw_eqSupportS.sem (a0, a1, ())
def jw_eqSupportS : List (Nat × List Nat) := [(1000004, [1, 1, 0, 1, 0])]
theorem jw_eqSupportS_ok : okB jw_eqSupportS (Try.f72.body.getD .skip) [] = true := by kernel_rfl
theorem Lw_eqSupportS_4_eq (x0 : List Sup) (x1 : List Sup) (x5 : Int) : Lw_eqSupportS_4 x0 x1 x5 =
  bif decide (x5 < (↑x0.length : Int)) then
 (getI x0 x5).bind fun y =>
  (getI x1 x5).bind fun y_1 =>
   (Sw_eqSupport y y_1).bind fun y =>
    bif !y.fst.fst then some ((false, ()), ()) else Lw_eqSupportS_4 x0 x1 (IntKind.i64.wrap (x5 + 1))
else some ((true, ()), ()) := (turn_eq jw_eqSupportS_ok [1, 1, 0, 1, 0] (by kernel_rfl) _).trans (by kernel_rfl)
theorem Sw_eqSupportS_eq (a0 : List Sup) (a1 : List Sup) : Sw_eqSupportS a0 a1 =
  bif (↑a0.length : Int) != (↑a1.length : Int) then some ((false, ()), ()) else Lw_eqSupportS_4 a0 a1 0 := (Eq.trans (by kernel_rfl : Sw_eqSupportS a0 a1 = denK Ew_eqSupportS (Try.f72.body.getD .skip) Kw_eqSupportS (slots0 27 [(ty64, Mode.ro), (ty64, Mode.ro)] (a0, a1, ()))) (all_eq jw_eqSupportS_ok _)).trans (by kernel_rfl)
noncomputable def Ew_eqView : Env := mkEnv C tab_w_eqSupportS [0, 1, 2, 3, 5, 7, 11, 13] 17 (fun x => none)
 (Hints.mk (fun x x_1 => none) (fun s => Nat.testBit 12 s) fun r =>
  bif r == 2 then [6, 12] else bif r == 3 then [8, 14] else [])
 [(ty66, Mode.ro), (ty66, Mode.ro)]
noncomputable def Kw_eqView := endK C [(ty66, Mode.ro), (ty66, Mode.ro)] [(ty4, 0)] [RV.tmp 4]
noncomputable def Sw_eqView (a0 : Viw) (a1 : Viw) : Option ((Bool × PUnit) × PUnit) := Fw_eqView.sem (a0, a1, ())
theorem Sw_eqView_eq (a0 : Viw) (a1 : Viw) : Sw_eqView a0 a1 =
  (Sw_eqNodeS a0.fst a1.fst).bind fun y =>
 bif !y.fst.fst then some ((false, ()), ())
 else (Sw_eqSupportS a0.snd a1.snd).bind fun y => bif !y.fst.fst then some ((false, ()), ()) else some ((true, ()), ()) := by kernel_rfl
noncomputable def Ew_eqViewS : Env := mkEnv C tab_w_eqView [0, 1, 2, 3, 5, 17, 19, 21, 23] 27 (fun k => bif k == 1000004 then some 35 else none)
 (Hints.mk (fun x x_1 => none) (fun s => Nat.testBit 0 s) fun x => []) [(ty52, Mode.ro), (ty52, Mode.ro)]
noncomputable def Kw_eqViewS := endK C [(ty52, Mode.ro), (ty52, Mode.ro)] [(ty4, 0)] [RV.tmp 4]
noncomputable def Lw_eqViewS_4 (x0 : List
 Viw) (x1 : List
 Viw) (x5 : Int) : Option ((Bool × PUnit) × PUnit) := loopAt Ew_eqViewS [1, 1, 0, 1, 0] (Try.f60.body.getD .skip) Kw_eqViewS [V.d none 0 ty52 x0, V.d none 0 ty52 x1, V.dead, V.dead, V.dead, V.d none 0 (Ty.int IntKind.i64) x5, V.dead, V.dead,
 V.dead, V.dead, V.dead, V.dead, V.dead, V.dead, V.dead, V.dead, V.dead, V.dead, V.dead, V.dead, V.dead, V.dead, V.dead,
 V.dead, V.dead, V.dead, V.dead]
noncomputable def Sw_eqViewS (a0 : List
 Viw) (a1 : List
 Viw) : Option ((Bool × PUnit) × PUnit) := Fw_eqViewS.sem (a0, a1, ())
def jw_eqViewS : List (Nat × List Nat) := [(1000004, [1, 1, 0, 1, 0])]
theorem jw_eqViewS_ok : okB jw_eqViewS (Try.f60.body.getD .skip) [] = true := by kernel_rfl
theorem Lw_eqViewS_4_eq (x0 : List
 Viw) (x1 : List
 Viw) (x5 : Int) : Lw_eqViewS_4 x0 x1 x5 =
  bif decide (x5 < (↑x0.length : Int)) then
 (getI x0 x5).bind fun y =>
  (getI x1 x5).bind fun y_1 =>
   (Sw_eqView y y_1).bind fun y =>
    bif !y.fst.fst then some ((false, ()), ()) else Lw_eqViewS_4 x0 x1 (IntKind.i64.wrap (x5 + 1))
else some ((true, ()), ()) := (turn_eq jw_eqViewS_ok [1, 1, 0, 1, 0] (by kernel_rfl) _).trans (by kernel_rfl)
theorem Sw_eqViewS_eq (a0 : List
 Viw) (a1 : List
 Viw) : Sw_eqViewS a0 a1 =
  bif (↑a0.length : Int) != (↑a1.length : Int) then some ((false, ()), ()) else Lw_eqViewS_4 a0 a1 0 := (Eq.trans (by kernel_rfl : Sw_eqViewS a0 a1 = denK Ew_eqViewS (Try.f60.body.getD .skip) Kw_eqViewS (slots0 27 [(ty52, Mode.ro), (ty52, Mode.ro)] (a0, a1, ()))) (all_eq jw_eqViewS_ok _)).trans (by kernel_rfl)
noncomputable def Ew_eqHouse : Env := mkEnv C tab_w_eqViewS [0, 1, 2, 3, 5, 7, 11, 13, 16, 18, 22, 24, 28, 30] 34 (fun x => none)
 (Hints.mk (fun x x_1 => none) (fun s => Nat.testBit 12 s) fun r =>
  bif r == 2 then [6, 17, 23, 29] else bif r == 3 then [8, 19, 25, 31] else [])
 [(ty54, Mode.ro), (ty54, Mode.ro)]
noncomputable def Kw_eqHouse := endK C [(ty54, Mode.ro), (ty54, Mode.ro)] [(ty4, 0)] [RV.tmp 4]
noncomputable def Sw_eqHouse (a0 : Sto ×
 Bool ×
  List Opn ×
   List ByteArray ×
    List
     Viw) (a1 : Sto ×
 Bool ×
  List Opn ×
   List ByteArray ×
    List
     Viw) : Option ((Bool × PUnit) × PUnit) := Fw_eqHouse.sem (a0, a1, ())
theorem Sw_eqHouse_eq (a0 : Sto ×
 Bool ×
  List Opn ×
   List ByteArray ×
    List
     Viw) (a1 : Sto ×
 Bool ×
  List Opn ×
   List ByteArray ×
    List
     Viw) : Sw_eqHouse a0 a1 =
  (Sw_eqStore a0.fst a1.fst).bind fun y =>
 bif !y.fst.fst then some ((false, ()), ())
 else
  bif !a0.snd.fst == a1.snd.fst then some ((false, ()), ())
  else
   (Sw_eqOpS a0.snd.snd.fst a1.snd.snd.fst).bind fun y =>
    bif !y.fst.fst then some ((false, ()), ())
    else
     (Sw_eqStringS a0.snd.snd.snd.fst a1.snd.snd.snd.fst).bind fun y =>
      bif !y.fst.fst then some ((false, ()), ())
      else
       (Sw_eqViewS a0.snd.snd.snd.snd a1.snd.snd.snd.snd).bind fun y =>
        bif !y.fst.fst then some ((false, ()), ()) else some ((true, ()), ()) := by kernel_rfl
noncomputable def Ew_markOpS : Env := mkEnv C tab_w_markStore [0, 1, 2, 3, 5, 12, 15, 19, 23, 27, 31, 35, 38, 39, 43, 45, 46, 47, 51, 53, 54] 59
 (fun k => bif k == 1000002 then some 35 else none)
 (Hints.mk (fun x x_1 => none) (fun s => Nat.testBit 0 s) fun x => []) [(ty51, Mode.mut 3), (ty3, Mode.ro)]
noncomputable def Kw_markOpS := endK C [(ty51, Mode.mut 3), (ty3, Mode.ro)] [(ty3, 0)] [RV.tmp 4]
noncomputable def Lw_markOpS_2 (x0 : List Opn) (x1 : Int) (x5 : Int) : Option ((Int × PUnit) × List Opn × PUnit) := loopAt Ew_markOpS [1, 0, 1, 0] (Try.f61.body.getD .skip) Kw_markOpS [V.d none 3 ty51 x0, V.d none 0 ty3 x1, V.dead, V.dead, V.dead, V.d none 0 (Ty.int IntKind.i64) x5, V.dead, V.dead,
 V.dead, V.dead, V.dead, V.dead, V.dead, V.dead, V.dead, V.dead, V.dead, V.dead, V.dead, V.dead, V.dead, V.dead, V.dead,
 V.dead, V.dead, V.dead, V.dead, V.dead, V.dead, V.dead, V.dead, V.dead, V.dead, V.dead, V.dead, V.dead, V.dead, V.dead,
 V.dead, V.dead, V.dead, V.dead, V.dead, V.dead, V.dead, V.dead, V.dead, V.dead, V.dead, V.dead, V.dead, V.dead, V.dead,
 V.dead, V.dead, V.dead, V.dead, V.dead, V.dead]
noncomputable def Sw_markOpS (a0 : List Opn) (a1 : Int) : Option ((Int × PUnit) × List Opn × PUnit) := Fw_markOpS.sem (a0, a1, ())
def jw_markOpS : List (Nat × List Nat) := [(1000002, [1, 0, 1, 0])]
theorem jw_markOpS_ok : okB jw_markOpS (Try.f61.body.getD .skip) [] = true := by kernel_rfl
theorem Lw_markOpS_2_eq (x0 : List Opn) (x1 : Int) (x5 : Int) : Lw_markOpS_2 x0 x1 x5 =
  bif decide (x5 < (↑x0.length : Int)) then
 (getI x0 x5).bind fun y =>
  (getI x0 x5).bind fun y =>
   (getI x0 x5).bind fun y =>
    (some (x0.set x5.toNat (x1, y.snd))).bind fun y =>
     (Sw_markText (IntKind.i64.wrap (x1 + 1))).bind fun y_1 =>
      (getI y x5).bind fun y_2 =>
       (getI y x5).bind fun y_3 =>
        (getI y x5).bind fun y_4 =>
         (some (y.set x5.toNat (y_4.fst, y_1.fst.fst, y_4.snd.snd))).bind fun y =>
          (Sw_markText (IntKind.i64.wrap (IntKind.i64.wrap (x1 + 1) + 1))).bind fun y_5 =>
           (getI y x5).bind fun y_6 =>
            (getI y x5).bind fun y_7 =>
             (getI y x5).bind fun y_8 =>
              (some (y.set x5.toNat (y_8.fst, y_8.snd.fst, y_5.fst.fst, y_8.snd.snd.snd))).bind fun y =>
               (getI y x5).bind fun y_9 =>
                (getI y x5).bind fun y_10 =>
                 (getI y x5).bind fun y_11 =>
                  (some
                     (y.set x5.toNat
                      (y_11.fst, y_11.snd.fst, y_11.snd.snd.fst,
                       (IntKind.i64.wrap (IntKind.i64.wrap (IntKind.i64.wrap (x1 + 1) + 1) + 1),
                        y_11.snd.snd.snd.fst.snd),
                       y_11.snd.snd.snd.snd))).bind
                   fun y =>
                   (getI y x5).bind fun y_12 =>
                    (getI y x5).bind fun y_13 =>
                     (getI y x5).bind fun y_14 =>
                      (Sw_markAtomS y_14.snd.snd.snd.fst.snd
                         (IntKind.i64.wrap
                          (IntKind.i64.wrap (IntKind.i64.wrap (IntKind.i64.wrap (x1 + 1) + 1) + 1) + 1))).bind
                       fun y_15 =>
                       (getI y x5).bind fun y_16 =>
                        (some
                           (y.set x5.toNat
                            (y_16.fst, y_16.snd.fst, y_16.snd.snd.fst, (y_16.snd.snd.snd.fst.fst, y_15.snd.fst),
                             y_16.snd.snd.snd.snd))).bind
                         fun y =>
                         (getI y x5).bind fun y_17 =>
                          (getI y x5).bind fun y_18 =>
                           (getI y x5).bind fun y_19 =>
                            (Sw_markIntS y_19.snd.snd.snd.snd y_15.fst.fst).bind fun y_20 =>
                             (getI y x5).bind fun y_21 =>
                              (some
                                 (y.set x5.toNat
                                  (y_21.fst, y_21.snd.fst, y_21.snd.snd.fst, y_21.snd.snd.snd.fst, y_20.snd.fst))).bind
                               fun y => Lw_markOpS_2 y y_20.fst.fst (IntKind.i64.wrap (x5 + 1))
else some ((x1, ()), x0, ()) := (turn_eq jw_markOpS_ok [1, 0, 1, 0] (by kernel_rfl) _).trans (by kernel_rfl)
theorem Sw_markOpS_eq (a0 : List Opn) (a1 : Int) : Sw_markOpS a0 a1 =
  Lw_markOpS_2 a0 a1 0 := (Eq.trans (by kernel_rfl : Sw_markOpS a0 a1 = denK Ew_markOpS (Try.f61.body.getD .skip) Kw_markOpS (slots0 59 [(ty51, Mode.mut 3), (ty3, Mode.ro)] (a0, a1, ()))) (all_eq jw_markOpS_ok _)).trans (by kernel_rfl)
noncomputable def Ew_markIntSS : Env := mkEnv C tab_w_markStringS [0, 1, 2, 3, 5, 12, 14] 19 (fun k => bif k == 1000002 then some 35 else none)
 (Hints.mk (fun x x_1 => none) (fun s => Nat.testBit 0 s) fun x => []) [(ty105, Mode.mut 2), (ty3, Mode.ro)]
noncomputable def Kw_markIntSS := endK C [(ty105, Mode.mut 2), (ty3, Mode.ro)] [(ty3, 0)] [RV.tmp 4]
noncomputable def Lw_markIntSS_2 (x0 : List (List Int)) (x1 : Int) (x5 : Int) : Option ((Int × PUnit) × List (List Int) × PUnit) := loopAt Ew_markIntSS [1, 0, 1, 0] (Try.f115.body.getD .skip) Kw_markIntSS [V.d none 2 ty105 x0, V.d none 0 ty3 x1, V.dead, V.dead, V.dead, V.d none 0 (Ty.int IntKind.i64) x5, V.dead, V.dead,
 V.dead, V.dead, V.dead, V.dead, V.dead, V.dead, V.dead, V.dead, V.dead, V.dead, V.dead]
noncomputable def Sw_markIntSS (a0 : List (List Int)) (a1 : Int) : Option ((Int × PUnit) × List (List Int) × PUnit) := Fw_markIntSS.sem (a0, a1, ())
def jw_markIntSS : List (Nat × List Nat) := [(1000002, [1, 0, 1, 0])]
theorem jw_markIntSS_ok : okB jw_markIntSS (Try.f115.body.getD .skip) [] = true := by kernel_rfl
theorem Lw_markIntSS_2_eq (x0 : List (List Int)) (x1 : Int) (x5 : Int) : Lw_markIntSS_2 x0 x1 x5 =
  bif decide (x5 < (↑x0.length : Int)) then
 (getI x0 x5).bind fun y =>
  (getI x0 x5).bind fun y =>
   (getI x0 x5).bind fun y =>
    (Sw_markIntS y x1).bind fun y =>
     (getI x0 x5).bind fun y_1 =>
      (some (x0.set x5.toNat y.snd.fst)).bind fun y_2 => Lw_markIntSS_2 y_2 y.fst.fst (IntKind.i64.wrap (x5 + 1))
else some ((x1, ()), x0, ()) := (turn_eq jw_markIntSS_ok [1, 0, 1, 0] (by kernel_rfl) _).trans (by kernel_rfl)
theorem Sw_markIntSS_eq (a0 : List (List Int)) (a1 : Int) : Sw_markIntSS a0 a1 =
  Lw_markIntSS_2 a0 a1 0 := (Eq.trans (by kernel_rfl : Sw_markIntSS a0 a1 = denK Ew_markIntSS (Try.f115.body.getD .skip) Kw_markIntSS (slots0 19 [(ty105, Mode.mut 2), (ty3, Mode.ro)] (a0, a1, ()))) (all_eq jw_markIntSS_ok _)).trans (by kernel_rfl)
noncomputable def Ew_markSupportS : Env := mkEnv C tab_w_markIntSS [0, 1, 2, 3, 5, 12, 15, 16, 20, 22, 23, 24, 28, 30, 31] 36
 (fun k => bif k == 1000002 then some 35 else none)
 (Hints.mk (fun x x_1 => none) (fun s => Nat.testBit 0 s) fun x => []) [(ty64, Mode.mut 3), (ty3, Mode.ro)]
noncomputable def Kw_markSupportS := endK C [(ty64, Mode.mut 3), (ty3, Mode.ro)] [(ty3, 0)] [RV.tmp 4]
noncomputable def Lw_markSupportS_2 (x0 : List Sup) (x1 : Int) (x5 : Int) : Option ((Int × PUnit) × List Sup × PUnit) := loopAt Ew_markSupportS [1, 0, 1, 0] (Try.f94.body.getD .skip) Kw_markSupportS [V.d none 3 ty64 x0, V.d none 0 ty3 x1, V.dead, V.dead, V.dead, V.d none 0 (Ty.int IntKind.i64) x5, V.dead, V.dead,
 V.dead, V.dead, V.dead, V.dead, V.dead, V.dead, V.dead, V.dead, V.dead, V.dead, V.dead, V.dead, V.dead, V.dead, V.dead,
 V.dead, V.dead, V.dead, V.dead, V.dead, V.dead, V.dead, V.dead, V.dead, V.dead, V.dead, V.dead, V.dead]
noncomputable def Sw_markSupportS (a0 : List Sup) (a1 : Int) : Option ((Int × PUnit) × List Sup × PUnit) := Fw_markSupportS.sem (a0, a1, ())
def jw_markSupportS : List (Nat × List Nat) := [(1000002, [1, 0, 1, 0])]
theorem jw_markSupportS_ok : okB jw_markSupportS (Try.f94.body.getD .skip) [] = true := by kernel_rfl
theorem Lw_markSupportS_2_eq (x0 : List Sup) (x1 : Int) (x5 : Int) : Lw_markSupportS_2 x0 x1 x5 =
  bif decide (x5 < (↑x0.length : Int)) then
 (getI x0 x5).bind fun y =>
  (getI x0 x5).bind fun y =>
   (getI x0 x5).bind fun y =>
    (some (x0.set x5.toNat ((x1, y.fst.snd), y.snd))).bind fun y =>
     (getI y x5).bind fun y_1 =>
      (getI y x5).bind fun y_2 =>
       (getI y x5).bind fun y_3 =>
        (Sw_markAtomS y_3.fst.snd (IntKind.i64.wrap (x1 + 1))).bind fun y_4 =>
         (getI y x5).bind fun y_5 =>
          (some (y.set x5.toNat ((y_5.fst.fst, y_4.snd.fst), y_5.snd))).bind fun y =>
           (getI y x5).bind fun y_6 =>
            (getI y x5).bind fun y_7 =>
             (getI y x5).bind fun y_8 =>
              (Sw_markIntSS y_8.snd y_4.fst.fst).bind fun y_9 =>
               (getI y x5).bind fun y_10 =>
                (some (y.set x5.toNat (y_10.fst, y_9.snd.fst))).bind fun y =>
                 Lw_markSupportS_2 y y_9.fst.fst (IntKind.i64.wrap (x5 + 1))
else some ((x1, ()), x0, ()) := (turn_eq jw_markSupportS_ok [1, 0, 1, 0] (by kernel_rfl) _).trans (by kernel_rfl)
theorem Sw_markSupportS_eq (a0 : List Sup) (a1 : Int) : Sw_markSupportS a0 a1 =
  Lw_markSupportS_2 a0 a1 0 := (Eq.trans (by kernel_rfl : Sw_markSupportS a0 a1 = denK Ew_markSupportS (Try.f94.body.getD .skip) Kw_markSupportS (slots0 36 [(ty64, Mode.mut 3), (ty3, Mode.ro)] (a0, a1, ()))) (all_eq jw_markSupportS_ok _)).trans (by kernel_rfl)
noncomputable def Ew_markViewS : Env := mkEnv C tab_w_markSupportS [0, 1, 2, 3, 5, 12, 14, 15, 19, 21, 22] 27 (fun k => bif k == 1000002 then some 35 else none)
 (Hints.mk (fun x x_1 => none) (fun s => Nat.testBit 0 s) fun x => []) [(ty52, Mode.mut 4), (ty3, Mode.ro)]
noncomputable def Kw_markViewS := endK C [(ty52, Mode.mut 4), (ty3, Mode.ro)] [(ty3, 0)] [RV.tmp 4]
noncomputable def Lw_markViewS_2 (x0 : List
 Viw) (x1 : Int) (x5 : Int) : Option ((Int × PUnit) ×
 List
   Viw ×
  PUnit) := loopAt Ew_markViewS [1, 0, 1, 0] (Try.f62.body.getD .skip) Kw_markViewS [V.d none 4 ty52 x0, V.d none 0 ty3 x1, V.dead, V.dead, V.dead, V.d none 0 (Ty.int IntKind.i64) x5, V.dead, V.dead,
 V.dead, V.dead, V.dead, V.dead, V.dead, V.dead, V.dead, V.dead, V.dead, V.dead, V.dead, V.dead, V.dead, V.dead, V.dead,
 V.dead, V.dead, V.dead, V.dead]
noncomputable def Sw_markViewS (a0 : List
 Viw) (a1 : Int) : Option ((Int × PUnit) ×
 List
   Viw ×
  PUnit) := Fw_markViewS.sem (a0, a1, ())
def jw_markViewS : List (Nat × List Nat) := [(1000002, [1, 0, 1, 0])]
theorem jw_markViewS_ok : okB jw_markViewS (Try.f62.body.getD .skip) [] = true := by kernel_rfl
theorem Lw_markViewS_2_eq (x0 : List
 Viw) (x1 : Int) (x5 : Int) : Lw_markViewS_2 x0 x1 x5 =
  bif decide (x5 < (↑x0.length : Int)) then
 (getI x0 x5).bind fun y =>
  (getI x0 x5).bind fun y =>
   (getI x0 x5).bind fun y =>
    (Sw_markNodeS y.fst x1).bind fun y =>
     (getI x0 x5).bind fun y_1 =>
      (some (x0.set x5.toNat (y.snd.fst, y_1.snd))).bind fun y_2 =>
       (getI y_2 x5).bind fun y_3 =>
        (getI y_2 x5).bind fun y_4 =>
         (getI y_2 x5).bind fun y_5 =>
          (Sw_markSupportS y_5.snd y.fst.fst).bind fun y =>
           (getI y_2 x5).bind fun y_6 =>
            (some (y_2.set x5.toNat (y_6.fst, y.snd.fst))).bind fun y_7 =>
             Lw_markViewS_2 y_7 y.fst.fst (IntKind.i64.wrap (x5 + 1))
else some ((x1, ()), x0, ()) := (turn_eq jw_markViewS_ok [1, 0, 1, 0] (by kernel_rfl) _).trans (by kernel_rfl)
theorem Sw_markViewS_eq (a0 : List
 Viw) (a1 : Int) : Sw_markViewS a0 a1 =
  Lw_markViewS_2 a0 a1 0 := (Eq.trans (by kernel_rfl : Sw_markViewS a0 a1 = denK Ew_markViewS (Try.f62.body.getD .skip) Kw_markViewS (slots0 27 [(ty52, Mode.mut 4), (ty3, Mode.ro)] (a0, a1, ()))) (all_eq jw_markViewS_ok _)).trans (by kernel_rfl)
noncomputable def Ew_markHouse : Env := mkEnv C tab_w_markViewS [0, 1, 2, 3, 5, 9, 13, 17] 22 (fun x => none)
 (Hints.mk (fun x x_1 => none) (fun s => Nat.testBit 4 s) fun r => bif r == 2 then [6, 10, 14, 18] else [])
 [(ty54, Mode.mut 5), (ty3, Mode.ro)]
noncomputable def Kw_markHouse := endK C [(ty54, Mode.mut 5), (ty3, Mode.ro)] [(ty3, 0)] [RV.tmp 4]
noncomputable def Sw_markHouse (a0 : Sto ×
 Bool ×
  List Opn ×
   List ByteArray ×
    List
     Viw) (a1 : Int) : Option ((Int × PUnit) ×
 (Sto ×
   Bool ×
    List Opn ×
     List ByteArray ×
      List
       Viw) ×
  PUnit) := Fw_markHouse.sem (a0, a1, ())
theorem Sw_markHouse_eq (a0 : Sto ×
 Bool ×
  List Opn ×
   List ByteArray ×
    List
     Viw) (a1 : Int) : Sw_markHouse a0 a1 =
  (Sw_markStore a0.fst a1).bind fun y =>
 (Sw_markOpS a0.snd.snd.fst y.fst.fst).bind fun y_1 =>
  (Sw_markStringS a0.snd.snd.snd.fst y_1.fst.fst).bind fun y_2 =>
   (Sw_markViewS a0.snd.snd.snd.snd y_2.fst.fst).bind fun y_3 =>
    some ((y_3.fst.fst, ()), (y.snd.fst, a0.snd.fst, y_1.snd.fst, y_2.snd.fst, y_3.snd.fst), ()) := by kernel_rfl
noncomputable def Ew_heldOpS : Env := mkEnv C tab_w_heldStore [0, 1, 2, 3, 5, 12, 14, 15, 21, 23, 24, 31, 33, 34, 41, 43, 44, 45, 51, 53, 54, 55, 61, 63, 64]
 71 (fun k => bif k == 1000002 then some 35 else none)
 (Hints.mk (fun x x_1 => none) (fun s => Nat.testBit 0 s) fun x => []) [(ty51, Mode.ro), (ty3, Mode.ro)]
noncomputable def Kw_heldOpS := endK C [(ty51, Mode.ro), (ty3, Mode.ro)] [(ty3, 0)] [RV.tmp 4]
noncomputable def Lw_heldOpS_2 (x0 : List Opn) (x1 : Int) (x5 : Int) : Option ((Int × PUnit) × PUnit) := loopAt Ew_heldOpS [1, 0, 1, 0] (Try.f63.body.getD .skip) Kw_heldOpS [V.d none 0 ty51 x0, V.d none 0 ty3 x1, V.dead, V.dead, V.dead, V.d none 0 (Ty.int IntKind.i64) x5, V.dead, V.dead,
 V.dead, V.dead, V.dead, V.dead, V.dead, V.dead, V.dead, V.dead, V.dead, V.dead, V.dead, V.dead, V.dead, V.dead, V.dead,
 V.dead, V.dead, V.dead, V.dead, V.dead, V.dead, V.dead, V.dead, V.dead, V.dead, V.dead, V.dead, V.dead, V.dead, V.dead,
 V.dead, V.dead, V.dead, V.dead, V.dead, V.dead, V.dead, V.dead, V.dead, V.dead, V.dead, V.dead, V.dead, V.dead, V.dead,
 V.dead, V.dead, V.dead, V.dead, V.dead, V.dead, V.dead, V.dead, V.dead, V.dead, V.dead, V.dead, V.dead, V.dead, V.dead,
 V.dead, V.dead, V.dead]
noncomputable def Sw_heldOpS (a0 : List Opn) (a1 : Int) : Option ((Int × PUnit) × PUnit) := Fw_heldOpS.sem (a0, a1, ())
def jw_heldOpS : List (Nat × List Nat) := [(1000002, [1, 0, 1, 0])]
theorem jw_heldOpS_ok : okB jw_heldOpS (Try.f63.body.getD .skip) [] = true := by kernel_rfl
theorem Lw_heldOpS_2_eq (x0 : List Opn) (x1 : Int) (x5 : Int) : Lw_heldOpS_2 x0 x1 x5 =
  bif decide (x5 < (↑x0.length : Int)) then
 (getI x0 x5).bind fun y =>
  bif y.fst != x1 then some ((-1, ()), ())
  else
   (getI x0 x5).bind fun y =>
    (Sw_markText (IntKind.i64.wrap (x1 + 1))).bind fun y_1 =>
     bif !ByteArray.toList y.snd.fst == ByteArray.toList y_1.fst.fst then some ((-1, ()), ())
     else
      (getI x0 x5).bind fun y =>
       (Sw_markText (IntKind.i64.wrap (IntKind.i64.wrap (x1 + 1) + 1))).bind fun y_2 =>
        bif !ByteArray.toList y.snd.snd.fst == ByteArray.toList y_2.fst.fst then some ((-1, ()), ())
        else
         (getI x0 x5).bind fun y =>
          bif y.snd.snd.snd.fst.fst != IntKind.i64.wrap (IntKind.i64.wrap (IntKind.i64.wrap (x1 + 1) + 1) + 1) then
           some ((-1, ()), ())
          else
           (getI x0 x5).bind fun y =>
            (Sw_heldAtomS y.snd.snd.snd.fst.snd
               (IntKind.i64.wrap (IntKind.i64.wrap (IntKind.i64.wrap (IntKind.i64.wrap (x1 + 1) + 1) + 1) + 1))).bind
             fun y =>
             bif decide (y.fst.fst < 0) then some ((-1, ()), ())
             else
              (getI x0 x5).bind fun y_3 =>
               (Sw_heldIntS y_3.snd.snd.snd.snd y.fst.fst).bind fun y =>
                bif decide (y.fst.fst < 0) then some ((-1, ()), ())
                else Lw_heldOpS_2 x0 y.fst.fst (IntKind.i64.wrap (x5 + 1))
else some ((x1, ()), ()) := (turn_eq jw_heldOpS_ok [1, 0, 1, 0] (by kernel_rfl) _).trans (by kernel_rfl)
theorem Sw_heldOpS_eq (a0 : List Opn) (a1 : Int) : Sw_heldOpS a0 a1 =
  Lw_heldOpS_2 a0 a1 0 := (Eq.trans (by kernel_rfl : Sw_heldOpS a0 a1 = denK Ew_heldOpS (Try.f63.body.getD .skip) Kw_heldOpS (slots0 71 [(ty51, Mode.ro), (ty3, Mode.ro)] (a0, a1, ()))) (all_eq jw_heldOpS_ok _)).trans (by kernel_rfl)
noncomputable def Ew_heldStringS : Env := mkEnv C tab_w_heldOpS [0, 1, 2, 3, 5, 12, 14] 22 (fun k => bif k == 1000002 then some 35 else none)
 (Hints.mk (fun x x_1 => none) (fun s => Nat.testBit 0 s) fun x => []) [(ty22, Mode.ro), (ty3, Mode.ro)]
noncomputable def Kw_heldStringS := endK C [(ty22, Mode.ro), (ty3, Mode.ro)] [(ty3, 0)] [RV.tmp 4]
noncomputable def Lw_heldStringS_2 (x0 : List ByteArray) (x1 : Int) (x5 : Int) : Option ((Int × PUnit) × PUnit) := loopAt Ew_heldStringS [1, 0, 1, 0] (Try.f64.body.getD .skip) Kw_heldStringS [V.d none 0 ty22 x0, V.d none 0 ty3 x1, V.dead, V.dead, V.dead, V.d none 0 (Ty.int IntKind.i64) x5, V.dead, V.dead,
 V.dead, V.dead, V.dead, V.dead, V.dead, V.dead, V.dead, V.dead, V.dead, V.dead, V.dead, V.dead, V.dead, V.dead]
noncomputable def Sw_heldStringS (a0 : List ByteArray) (a1 : Int) : Option ((Int × PUnit) × PUnit) := Fw_heldStringS.sem (a0, a1, ())
def jw_heldStringS : List (Nat × List Nat) := [(1000002, [1, 0, 1, 0])]
theorem jw_heldStringS_ok : okB jw_heldStringS (Try.f64.body.getD .skip) [] = true := by kernel_rfl
theorem Lw_heldStringS_2_eq (x0 : List ByteArray) (x1 : Int) (x5 : Int) : Lw_heldStringS_2 x0 x1 x5 =
  bif decide (x5 < (↑x0.length : Int)) then
 (getI x0 x5).bind fun y =>
  (Sw_markText x1).bind fun y_1 =>
   bif !y.toList == ByteArray.toList y_1.fst.fst then some ((-1, ()), ())
   else Lw_heldStringS_2 x0 (IntKind.i64.wrap (x1 + 1)) (IntKind.i64.wrap (x5 + 1))
else some ((x1, ()), ()) := (turn_eq jw_heldStringS_ok [1, 0, 1, 0] (by kernel_rfl) _).trans (by kernel_rfl)
theorem Sw_heldStringS_eq (a0 : List ByteArray) (a1 : Int) : Sw_heldStringS a0 a1 =
  Lw_heldStringS_2 a0 a1 0 := (Eq.trans (by kernel_rfl : Sw_heldStringS a0 a1 = denK Ew_heldStringS (Try.f64.body.getD .skip) Kw_heldStringS (slots0 22 [(ty22, Mode.ro), (ty3, Mode.ro)] (a0, a1, ()))) (all_eq jw_heldStringS_ok _)).trans (by kernel_rfl)
noncomputable def Ew_heldIntSS : Env := mkEnv C tab_w_heldStringS [0, 1, 2, 3, 5, 12, 14] 21 (fun k => bif k == 1000002 then some 35 else none)
 (Hints.mk (fun x x_1 => none) (fun s => Nat.testBit 0 s) fun x => []) [(ty105, Mode.ro), (ty3, Mode.ro)]
noncomputable def Kw_heldIntSS := endK C [(ty105, Mode.ro), (ty3, Mode.ro)] [(ty3, 0)] [RV.tmp 4]
noncomputable def Lw_heldIntSS_2 (x0 : List (List Int)) (x1 : Int) (x5 : Int) : Option ((Int × PUnit) × PUnit) := loopAt Ew_heldIntSS [1, 0, 1, 0] (Try.f116.body.getD .skip) Kw_heldIntSS [V.d none 0 ty105 x0, V.d none 0 ty3 x1, V.dead, V.dead, V.dead, V.d none 0 (Ty.int IntKind.i64) x5, V.dead, V.dead,
 V.dead, V.dead, V.dead, V.dead, V.dead, V.dead, V.dead, V.dead, V.dead, V.dead, V.dead, V.dead, V.dead]
noncomputable def Sw_heldIntSS (a0 : List (List Int)) (a1 : Int) : Option ((Int × PUnit) × PUnit) := Fw_heldIntSS.sem (a0, a1, ())
def jw_heldIntSS : List (Nat × List Nat) := [(1000002, [1, 0, 1, 0])]
theorem jw_heldIntSS_ok : okB jw_heldIntSS (Try.f116.body.getD .skip) [] = true := by kernel_rfl
theorem Lw_heldIntSS_2_eq (x0 : List (List Int)) (x1 : Int) (x5 : Int) : Lw_heldIntSS_2 x0 x1 x5 =
  bif decide (x5 < (↑x0.length : Int)) then
 (getI x0 x5).bind fun y =>
  (Sw_heldIntS y x1).bind fun y =>
   bif decide (y.fst.fst < 0) then some ((-1, ()), ()) else Lw_heldIntSS_2 x0 y.fst.fst (IntKind.i64.wrap (x5 + 1))
else some ((x1, ()), ()) := (turn_eq jw_heldIntSS_ok [1, 0, 1, 0] (by kernel_rfl) _).trans (by kernel_rfl)
theorem Sw_heldIntSS_eq (a0 : List (List Int)) (a1 : Int) : Sw_heldIntSS a0 a1 =
  Lw_heldIntSS_2 a0 a1 0 := (Eq.trans (by kernel_rfl : Sw_heldIntSS a0 a1 = denK Ew_heldIntSS (Try.f116.body.getD .skip) Kw_heldIntSS (slots0 21 [(ty105, Mode.ro), (ty3, Mode.ro)] (a0, a1, ()))) (all_eq jw_heldIntSS_ok _)).trans (by kernel_rfl)
noncomputable def Ew_heldSupportS : Env := mkEnv C tab_w_heldIntSS [0, 1, 2, 3, 5, 12, 14, 15, 16, 22, 24, 25, 26, 32, 34, 35] 42
 (fun k => bif k == 1000002 then some 35 else none)
 (Hints.mk (fun x x_1 => none) (fun s => Nat.testBit 0 s) fun x => []) [(ty64, Mode.ro), (ty3, Mode.ro)]
noncomputable def Kw_heldSupportS := endK C [(ty64, Mode.ro), (ty3, Mode.ro)] [(ty3, 0)] [RV.tmp 4]
noncomputable def Lw_heldSupportS_2 (x0 : List Sup) (x1 : Int) (x5 : Int) : Option ((Int × PUnit) × PUnit) := loopAt Ew_heldSupportS [1, 0, 1, 0] (Try.f97.body.getD .skip) Kw_heldSupportS [V.d none 0 ty64 x0, V.d none 0 ty3 x1, V.dead, V.dead, V.dead, V.d none 0 (Ty.int IntKind.i64) x5, V.dead, V.dead,
 V.dead, V.dead, V.dead, V.dead, V.dead, V.dead, V.dead, V.dead, V.dead, V.dead, V.dead, V.dead, V.dead, V.dead, V.dead,
 V.dead, V.dead, V.dead, V.dead, V.dead, V.dead, V.dead, V.dead, V.dead, V.dead, V.dead, V.dead, V.dead, V.dead, V.dead,
 V.dead, V.dead, V.dead, V.dead]
noncomputable def Sw_heldSupportS (a0 : List Sup) (a1 : Int) : Option ((Int × PUnit) × PUnit) := Fw_heldSupportS.sem (a0, a1, ())
def jw_heldSupportS : List (Nat × List Nat) := [(1000002, [1, 0, 1, 0])]
theorem jw_heldSupportS_ok : okB jw_heldSupportS (Try.f97.body.getD .skip) [] = true := by kernel_rfl
theorem Lw_heldSupportS_2_eq (x0 : List Sup) (x1 : Int) (x5 : Int) : Lw_heldSupportS_2 x0 x1 x5 =
  bif decide (x5 < (↑x0.length : Int)) then
 (getI x0 x5).bind fun y =>
  bif y.fst.fst != x1 then some ((-1, ()), ())
  else
   (getI x0 x5).bind fun y =>
    (Sw_heldAtomS y.fst.snd (IntKind.i64.wrap (x1 + 1))).bind fun y =>
     bif decide (y.fst.fst < 0) then some ((-1, ()), ())
     else
      (getI x0 x5).bind fun y_1 =>
       (Sw_heldIntSS y_1.snd y.fst.fst).bind fun y =>
        bif decide (y.fst.fst < 0) then some ((-1, ()), ())
        else Lw_heldSupportS_2 x0 y.fst.fst (IntKind.i64.wrap (x5 + 1))
else some ((x1, ()), ()) := (turn_eq jw_heldSupportS_ok [1, 0, 1, 0] (by kernel_rfl) _).trans (by kernel_rfl)
theorem Sw_heldSupportS_eq (a0 : List Sup) (a1 : Int) : Sw_heldSupportS a0 a1 =
  Lw_heldSupportS_2 a0 a1 0 := (Eq.trans (by kernel_rfl : Sw_heldSupportS a0 a1 = denK Ew_heldSupportS (Try.f97.body.getD .skip) Kw_heldSupportS (slots0 42 [(ty64, Mode.ro), (ty3, Mode.ro)] (a0, a1, ()))) (all_eq jw_heldSupportS_ok _)).trans (by kernel_rfl)
noncomputable def Ew_heldViewS : Env := mkEnv C tab_w_heldSupportS [0, 1, 2, 3, 5, 12, 14, 15, 21, 23, 24] 31 (fun k => bif k == 1000002 then some 35 else none)
 (Hints.mk (fun x x_1 => none) (fun s => Nat.testBit 0 s) fun x => []) [(ty52, Mode.ro), (ty3, Mode.ro)]
noncomputable def Kw_heldViewS := endK C [(ty52, Mode.ro), (ty3, Mode.ro)] [(ty3, 0)] [RV.tmp 4]
noncomputable def Lw_heldViewS_2 (x0 : List
 Viw) (x1 : Int) (x5 : Int) : Option ((Int × PUnit) × PUnit) := loopAt Ew_heldViewS [1, 0, 1, 0] (Try.f65.body.getD .skip) Kw_heldViewS [V.d none 0 ty52 x0, V.d none 0 ty3 x1, V.dead, V.dead, V.dead, V.d none 0 (Ty.int IntKind.i64) x5, V.dead, V.dead,
 V.dead, V.dead, V.dead, V.dead, V.dead, V.dead, V.dead, V.dead, V.dead, V.dead, V.dead, V.dead, V.dead, V.dead, V.dead,
 V.dead, V.dead, V.dead, V.dead, V.dead, V.dead, V.dead, V.dead]
noncomputable def Sw_heldViewS (a0 : List
 Viw) (a1 : Int) : Option ((Int × PUnit) × PUnit) := Fw_heldViewS.sem (a0, a1, ())
def jw_heldViewS : List (Nat × List Nat) := [(1000002, [1, 0, 1, 0])]
theorem jw_heldViewS_ok : okB jw_heldViewS (Try.f65.body.getD .skip) [] = true := by kernel_rfl
theorem Lw_heldViewS_2_eq (x0 : List
 Viw) (x1 : Int) (x5 : Int) : Lw_heldViewS_2 x0 x1 x5 =
  bif decide (x5 < (↑x0.length : Int)) then
 (getI x0 x5).bind fun y =>
  (Sw_heldNodeS y.fst x1).bind fun y =>
   bif decide (y.fst.fst < 0) then some ((-1, ()), ())
   else
    (getI x0 x5).bind fun y_1 =>
     (Sw_heldSupportS y_1.snd y.fst.fst).bind fun y =>
      bif decide (y.fst.fst < 0) then some ((-1, ()), ()) else Lw_heldViewS_2 x0 y.fst.fst (IntKind.i64.wrap (x5 + 1))
else some ((x1, ()), ()) := (turn_eq jw_heldViewS_ok [1, 0, 1, 0] (by kernel_rfl) _).trans (by kernel_rfl)
theorem Sw_heldViewS_eq (a0 : List
 Viw) (a1 : Int) : Sw_heldViewS a0 a1 =
  Lw_heldViewS_2 a0 a1 0 := (Eq.trans (by kernel_rfl : Sw_heldViewS a0 a1 = denK Ew_heldViewS (Try.f65.body.getD .skip) Kw_heldViewS (slots0 31 [(ty52, Mode.ro), (ty3, Mode.ro)] (a0, a1, ()))) (all_eq jw_heldViewS_ok _)).trans (by kernel_rfl)
noncomputable def Ew_heldHouse : Env := mkEnv C tab_w_heldViewS [0, 1, 2, 3, 5, 11, 17, 23] 30 (fun x => none)
 (Hints.mk (fun x x_1 => none) (fun s => Nat.testBit 4 s) fun r => bif r == 2 then [6, 12, 18, 24] else [])
 [(ty54, Mode.ro), (ty3, Mode.ro)]
noncomputable def Kw_heldHouse := endK C [(ty54, Mode.ro), (ty3, Mode.ro)] [(ty3, 0)] [RV.tmp 4]
noncomputable def Sw_heldHouse (a0 : Sto ×
 Bool ×
  List Opn ×
   List ByteArray ×
    List
     Viw) (a1 : Int) : Option ((Int × PUnit) × PUnit) := Fw_heldHouse.sem (a0, a1, ())
theorem Sw_heldHouse_eq (a0 : Sto ×
 Bool ×
  List Opn ×
   List ByteArray ×
    List
     Viw) (a1 : Int) : Sw_heldHouse a0 a1 =
  (Sw_heldStore a0.fst a1).bind fun y =>
 bif decide (y.fst.fst < 0) then some ((-1, ()), ())
 else
  (Sw_heldOpS a0.snd.snd.fst y.fst.fst).bind fun y =>
   bif decide (y.fst.fst < 0) then some ((-1, ()), ())
   else
    (Sw_heldStringS a0.snd.snd.snd.fst y.fst.fst).bind fun y =>
     bif decide (y.fst.fst < 0) then some ((-1, ()), ())
     else
      (Sw_heldViewS a0.snd.snd.snd.snd y.fst.fst).bind fun y =>
       bif decide (y.fst.fst < 0) then some ((-1, ()), ()) else some ((y.fst.fst, ()), ()) := by kernel_rfl
noncomputable def Ew_FnExactNewHouse : Env := mkEnv C tab_w_heldHouse [1, 2, 3, 4, 5] 36
 (fun k => bif k == 1 then some 1 else bif k == 2 then some 3 else bif k == 13 then some 15 else none)
 (Hints.mk (fun x x_1 => none) (fun s => Nat.testBit 38 s) fun r =>
  bif r == 1 then [9, 25] else bif r == 2 then [8, 12, 15, 28] else bif r == 5 then [24] else [])
 []
noncomputable def Kw_FnExactNewHouse := endK C [] [(ty4, 0)] [RV.tmp 0]
noncomputable def Sw_FnExactNewHouse  : Option ((Bool × PUnit) × PUnit) := Fw_FnExactNewHouse.sem (())
theorem Sw_FnExactNewHouse_eq  : Sw_FnExactNewHouse  =
  Ss_NewHouse.bind fun y =>
 Si_NewHouse.bind fun y_1 =>
  (Sw_eqHouse y_1.fst.fst y.fst.fst).bind fun y_2 =>
   bif !y_2.fst.fst then some ((false, ()), ())
   else
    (Sw_markHouse y_1.fst.fst 1).bind fun y_3 =>
     (Sw_heldHouse y_3.snd.fst 1).bind fun y_4 =>
      bif decide (y_4.fst.fst < 0) then some ((false, ()), ())
      else
       bif y_4.fst.fst != y_3.fst.fst then some ((false, ()), ())
       else
        Si_NewHouse.bind fun y_5 =>
         (Sw_eqHouse y_5.fst.fst y.fst.fst).bind fun y =>
          bif !y.fst.fst then some ((false, ()), ())
          else
           (Sw_heldHouse y_3.snd.fst 1).bind fun y =>
            bif decide (y.fst.fst < 0) then some ((false, ()), ())
            else bif y.fst.fst != y_3.fst.fst then some ((false, ()), ()) else some ((true, ()), ()) := by kernel_rfl
end Go.Proofs.Ytjccadhifgkdbaa.P.It
