/- A part of the proof: It3e. No conditions. -/
import Derived.Test.YtamkkancfmbanaaDoorPIt2e
import Derived.Test.YtamkkancfmbanaaDoorPG7
import Derived.Test.YtamkkancfmbanaaDoorChecked
import Derived.KernelRfl
set_option linter.unusedVariables false
set_option maxRecDepth 100000
namespace Go.Proofs.YtamkkancfmbanaaDoor.P.It
open Am
noncomputable def Es_l1In : Env := mkEnv C tab0 [0, 1, 2, 3, 4, 5] 15 (fun x => none) (Hints.mk (fun x x_1 => none) (fun s => Nat.testBit 0 s) fun x => [])
 [(ty3, Mode.ro), (ty3, Mode.ro), (ty3, Mode.ro)]
noncomputable def Ks_l1In := endK C [(ty3, Mode.ro), (ty3, Mode.ro), (ty3, Mode.ro)] [(ty4, 0)] [RV.tmp 6]
noncomputable def Ss_l1In (a0 : Int) (a1 : Int) (a2 : Int) : Option ((Bool × PUnit) × PUnit) := Fs_l1In.sem (a0, a1, a2, ())
theorem Ss_l1In_eq (a0 : Int) (a1 : Int) (a2 : Int) : Ss_l1In a0 a1 a2 =
  bif decide (a0 ≥ a1) then some ((decide (a0 ≤ a2), ()), ()) else some ((false, ()), ()) := by kernel_rfl
noncomputable def Es_FormatInt : Env := mkEnv C tab_s_l1In [0, 1, 3, 4, 5, 17] 30 (fun k => bif k == 1000003 then some 25 else none)
 (Hints.mk (fun x x_1 => none) (fun s => Nat.testBit 0 s) fun x => []) [(ty3, Mode.ro)]
noncomputable def Ks_FormatInt := endK C [(ty3, Mode.ro)] [(ty9, 0)] [RV.tmp 2]
noncomputable def Ls_FormatInt_3 (x0 : Int) (x3 : ByteArray) (x4 : Int) : Option ((ByteArray × PUnit) × PUnit) := loopAt Es_FormatInt [1, 1, 0, 1, 0] (Tryd.f10.body.getD .skip) Ks_FormatInt [V.d none 0 ty3 x0, V.dead, V.dead, V.d none 0 Ty.str x3, V.d none 0 ty3 x4, V.dead, V.dead, V.dead, V.dead, V.dead,
 V.dead, V.dead, V.dead, V.dead, V.dead, V.dead, V.dead, V.dead, V.dead, V.dead, V.dead, V.dead, V.dead, V.dead, V.dead,
 V.dead, V.dead, V.dead, V.dead, V.dead]
noncomputable def Ss_FormatInt (a0 : Int) : Option ((ByteArray × PUnit) × PUnit) := Fs_FormatInt.sem (a0, ())
def js_FormatInt : List (Nat × List Nat) := [(1000003, [1, 1, 0, 1, 0])]
theorem js_FormatInt_ok : okB js_FormatInt (Tryd.f10.body.getD .skip) [] = true := by kernel_rfl
theorem Ls_FormatInt_3_eq (x0 : Int) (x3 : ByteArray) (x4 : Int) : Ls_FormatInt_3 x0 x3 x4 =
  bif x4 != 0 then
 bif decide (x4.tmod 10 < 0) then
  bif
    decide (0 ≤ IntKind.i64.wrap (0 - x4.tmod 10)) &&
      decide (IntKind.i64.wrap (0 - x4.tmod 10) ≤ IntKind.i64.wrap (IntKind.i64.wrap (0 - x4.tmod 10) + 1)) &&
     decide
      (IntKind.i64.wrap (IntKind.i64.wrap (0 - x4.tmod 10) + 1) ≤
       (↑(ByteArray.mk #[48, 49, 50, 51, 52, 53, 54, 55, 56, 57]).size : Int)) then
   bif
     decide
      (((ByteArray.mk #[48, 49, 50, 51, 52, 53, 54, 55, 56, 57]).extract (IntKind.i64.wrap (0 - x4.tmod 10)).toNat
          (IntKind.i64.wrap (IntKind.i64.wrap (0 - x4.tmod 10) + 1)).toNat).size +
        x3.size ≤
       140737488355328) then
    Ls_FormatInt_3 x0
     ((ByteArray.mk #[48, 49, 50, 51, 52, 53, 54, 55, 56, 57]).extract (IntKind.i64.wrap (0 - x4.tmod 10)).toNat
       (IntKind.i64.wrap (IntKind.i64.wrap (0 - x4.tmod 10) + 1)).toNat ++
      x3)
     (IntKind.i64.wrap (x4.tdiv 10))
   else none
  else none
 else
  bif
    decide (0 ≤ x4.tmod 10) && decide (x4.tmod 10 ≤ IntKind.i64.wrap (x4.tmod 10 + 1)) &&
     decide
      (IntKind.i64.wrap (x4.tmod 10 + 1) ≤ (↑(ByteArray.mk #[48, 49, 50, 51, 52, 53, 54, 55, 56, 57]).size : Int)) then
   bif
     decide
      (((ByteArray.mk #[48, 49, 50, 51, 52, 53, 54, 55, 56, 57]).extract (x4.tmod 10).toNat
          (IntKind.i64.wrap (x4.tmod 10 + 1)).toNat).size +
        x3.size ≤
       140737488355328) then
    Ls_FormatInt_3 x0
     ((ByteArray.mk #[48, 49, 50, 51, 52, 53, 54, 55, 56, 57]).extract (x4.tmod 10).toNat
       (IntKind.i64.wrap (x4.tmod 10 + 1)).toNat ++
      x3)
     (IntKind.i64.wrap (x4.tdiv 10))
   else none
  else none
else
 bif x0 == 0 then some ((ByteArray.mk #[48], ()), ())
 else
  bif decide (x0 < 0) then
   bif decide ((ByteArray.mk #[45]).size + x3.size ≤ 140737488355328) then some ((ByteArray.mk #[45] ++ x3, ()), ())
   else none
  else some ((x3, ()), ()) := (turn_eq js_FormatInt_ok [1, 1, 0, 1, 0] (by kernel_rfl) _).trans (by kernel_rfl)
theorem Ss_FormatInt_eq (a0 : Int) : Ss_FormatInt a0 =
  Ls_FormatInt_3 a0 (ByteArray.mk #[]) a0 := (Eq.trans (by kernel_rfl : Ss_FormatInt a0 = denK Es_FormatInt (Tryd.f10.body.getD .skip) Ks_FormatInt (slots0 30 [(ty3, Mode.ro)] (a0, ()))) (all_eq js_FormatInt_ok _)).trans (by kernel_rfl)
noncomputable def Es_l11Check : Env := mkEnv C tab_s_FormatInt [0, 1, 2, 3, 5, 6] 23 (fun k => bif k == 1000003 then some 98 else none)
 (Hints.mk (fun x x_1 => none) (fun s => Nat.testBit 0 s) fun x => []) [(ty3, Mode.ro), (ty9, Mode.ro)]
noncomputable def Ks_l11Check := endK C [(ty3, Mode.ro), (ty9, Mode.ro)] [(ty3, 0)] [RV.tmp 4]
noncomputable def Ls_l11Check_3 (x1 : ByteArray) (x5 : Int) (x6 : Int) : Option ((Int × PUnit) × PUnit) := loopAt Es_l11Check [1, 1, 0, 1, 0] (Tryd.f11.body.getD .skip) Ks_l11Check [V.dead, V.d none 0 ty9 x1, V.dead, V.dead, V.dead, V.d none 0 ty3 x5, V.d none 0 (Ty.int IntKind.i64) x6, V.dead,
 V.dead, V.dead, V.dead, V.dead, V.dead, V.dead, V.dead, V.dead, V.dead, V.dead, V.dead, V.dead, V.dead, V.dead, V.dead]
noncomputable def Ss_l11Check (a0 : Int) (a1 : ByteArray) : Option ((Int × PUnit) × PUnit) := Fs_l11Check.sem (a0, a1, ())
def js_l11Check : List (Nat × List Nat) := [(1000003, [1, 1, 0, 1, 0])]
theorem js_l11Check_ok : okB js_l11Check (Tryd.f11.body.getD .skip) [] = true := by kernel_rfl
theorem Ls_l11Check_3_eq (x1 : ByteArray) (x5 : Int) (x6 : Int) : Ls_l11Check_3 x1 x5 x6 =
  bif decide (x6 < (↑x1.size : Int)) then
 (getB x1 x6).bind fun y =>
  Ls_l11Check_3 x1 ((IntKind.i64.wrap (IntKind.i64.wrap (x5 * 31) + IntKind.i64.wrap y)).tmod 9973)
   (IntKind.i64.wrap (x6 + 1))
else some ((x5, ()), ()) := (turn_eq js_l11Check_ok [1, 1, 0, 1, 0] (by kernel_rfl) _).trans (by kernel_rfl)
theorem Ss_l11Check_eq (a0 : Int) (a1 : ByteArray) : Ss_l11Check a0 a1 =
  Ls_l11Check_3 a1 a0 0 := (Eq.trans (by kernel_rfl : Ss_l11Check a0 a1 = denK Es_l11Check (Tryd.f11.body.getD .skip) Ks_l11Check (slots0 23 [(ty3, Mode.ro), (ty9, Mode.ro)] (a0, a1, ()))) (all_eq js_l11Check_ok _)).trans (by kernel_rfl)
noncomputable def Es_EntryOf : Env := mkEnv C tab_s_l11Check [0, 1, 2, 3] 24 (fun x => none)
 (Hints.mk (fun x x_1 => none) (fun s => Nat.testBit 0 s) fun x => []) [(ty3, Mode.ro), (ty9, Mode.ro)]
noncomputable def Ks_EntryOf := endK C [(ty3, Mode.ro), (ty9, Mode.ro)] [(ty9, 0)] [RV.tmp 4]
noncomputable def Ss_EntryOf (a0 : Int) (a1 : ByteArray) : Option ((ByteArray × PUnit) × PUnit) := Fs_EntryOf.sem (a0, a1, ())
theorem Ss_EntryOf_eq (a0 : Int) (a1 : ByteArray) : Ss_EntryOf a0 a1 =
  (Ss_l1In a0 0 40).bind fun y =>
 bif !y.fst.fst then some ((ByteArray.mk #[], ()), ())
 else
  bif decide ((↑a1.size : Int) > 2000) then some ((ByteArray.mk #[], ()), ())
  else
   (Ss_FormatInt a0).bind fun y =>
    bif decide (ByteArray.size y.fst.fst + (ByteArray.mk #[58]).size ≤ 140737488355328) then
     bif decide ((y.fst.fst ++ ByteArray.mk #[58]).size + a1.size ≤ 140737488355328) then
      bif decide ((y.fst.fst ++ ByteArray.mk #[58] ++ a1).size + (ByteArray.mk #[58]).size ≤ 140737488355328) then
       (Ss_l11Check a0 a1).bind fun y_1 =>
        (Ss_FormatInt y_1.fst.fst).bind fun y_2 =>
         bif
           decide
            ((y.fst.fst ++ ByteArray.mk #[58] ++ a1 ++ ByteArray.mk #[58]).size + ByteArray.size y_2.fst.fst ≤
             140737488355328) then
          some ((y.fst.fst ++ ByteArray.mk #[58] ++ a1 ++ ByteArray.mk #[58] ++ y_2.fst.fst, ()), ())
         else none
      else none
     else none
    else none := by kernel_rfl
noncomputable def Sstrconv__Itoa (x0 : Int) : Option ((ByteArray × Unit) × Unit) := Fstrconv__Itoa.sem (x0, ())
noncomputable def Ei_FormatInt : Env := mkEnv C tab_strconv__Itoa [0, 1] 5 (fun x => none) (Hints.mk (fun x x_1 => none) (fun s => Nat.testBit 0 s) fun x => [])
 [(ty3, Mode.ro)]
noncomputable def Ki_FormatInt := endK C [(ty3, Mode.ro)] [(ty9, 0)] [RV.tmp 2]
noncomputable def Si_FormatInt (a0 : Int) : Option ((ByteArray × PUnit) × PUnit) := Fi_FormatInt.sem (a0, ())
theorem Si_FormatInt_eq (a0 : Int) : Si_FormatInt a0 =
  Option.bind (Go.Proofs.YtamkkancfmbanaaDoor.P.It.Sstrconv__Itoa a0) fun y => some ((y.fst.fst, ()), ()) := by kernel_rfl
noncomputable def Ei_EntryOf : Env := mkEnv C tab_i_FormatInt [0, 1, 2, 3, 5, 6] 42 (fun k => bif k == 1000005 then some 99 else none)
 (Hints.mk (fun x x_1 => none) (fun s => Nat.testBit 0 s) fun x => []) [(ty3, Mode.ro), (ty9, Mode.ro)]
noncomputable def Ki_EntryOf := endK C [(ty3, Mode.ro), (ty9, Mode.ro)] [(ty9, 0)] [RV.tmp 4]
noncomputable def Li_EntryOf_5 (x0 : Int) (x1 : ByteArray) (x5 : Int) (x6 : Int) : Option ((ByteArray × PUnit) × PUnit) := loopAt Ei_EntryOf [1, 1, 1, 0, 1, 0] (Tryd.f6.body.getD .skip) Ki_EntryOf [V.d none 0 ty3 x0, V.d none 0 ty9 x1, V.dead, V.dead, V.dead, V.d none 0 ty3 x5, V.d none 0 (Ty.int IntKind.i64) x6,
 V.dead, V.dead, V.dead, V.dead, V.dead, V.dead, V.dead, V.dead, V.dead, V.dead, V.dead, V.dead, V.dead, V.dead, V.dead,
 V.dead, V.dead, V.dead, V.dead, V.dead, V.dead, V.dead, V.dead, V.dead, V.dead, V.dead, V.dead, V.dead, V.dead, V.dead,
 V.dead, V.dead, V.dead, V.dead, V.dead]
noncomputable def Si_EntryOf (a0 : Int) (a1 : ByteArray) : Option ((ByteArray × PUnit) × PUnit) := Fi_EntryOf.sem (a0, a1, ())
def ji_EntryOf : List (Nat × List Nat) := [(1000005, [1, 1, 1, 0, 1, 0])]
theorem ji_EntryOf_ok : okB ji_EntryOf (Tryd.f6.body.getD .skip) [] = true := by kernel_rfl
theorem Li_EntryOf_5_eq (x0 : Int) (x1 : ByteArray) (x5 : Int) (x6 : Int) : Li_EntryOf_5 x0 x1 x5 x6 =
  bif decide (x6 < (↑x1.size : Int)) then
 (getB x1 x6).bind fun y =>
  Li_EntryOf_5 x0 x1 ((IntKind.i64.wrap (IntKind.i64.wrap (31 * x5) + IntKind.i64.wrap y)).tmod 9973)
   (IntKind.i64.wrap (x6 + 1))
else
 (Si_FormatInt x0).bind fun y =>
  bif decide (ByteArray.size y.fst.fst + (ByteArray.mk #[58]).size ≤ 140737488355328) then
   bif decide ((y.fst.fst ++ ByteArray.mk #[58]).size + x1.size ≤ 140737488355328) then
    bif decide ((y.fst.fst ++ ByteArray.mk #[58] ++ x1).size + (ByteArray.mk #[58]).size ≤ 140737488355328) then
     (Si_FormatInt x5).bind fun y_1 =>
      bif
        decide
         ((y.fst.fst ++ ByteArray.mk #[58] ++ x1 ++ ByteArray.mk #[58]).size + ByteArray.size y_1.fst.fst ≤
          140737488355328) then
       some ((y.fst.fst ++ ByteArray.mk #[58] ++ x1 ++ ByteArray.mk #[58] ++ y_1.fst.fst, ()), ())
      else none
    else none
   else none
  else none := (turn_eq ji_EntryOf_ok [1, 1, 1, 0, 1, 0] (by kernel_rfl) _).trans (by kernel_rfl)
theorem Si_EntryOf_eq (a0 : Int) (a1 : ByteArray) : Si_EntryOf a0 a1 =
  bif decide (a0 < 0) then some ((ByteArray.mk #[], ()), ())
else
 bif decide (a0 > 40) then some ((ByteArray.mk #[], ()), ())
 else bif decide ((↑a1.size : Int) > 2000) then some ((ByteArray.mk #[], ()), ()) else Li_EntryOf_5 a0 a1 a0 0 := (Eq.trans (by kernel_rfl : Si_EntryOf a0 a1 = denK Ei_EntryOf (Tryd.f6.body.getD .skip) Ki_EntryOf (slots0 42 [(ty3, Mode.ro), (ty9, Mode.ro)] (a0, a1, ()))) (all_eq ji_EntryOf_ok _)).trans (by kernel_rfl)
noncomputable def Ew_FnExactEntryOf : Env := mkEnv C tab_i_EntryOf [0, 1, 2, 3, 5, 6] 19 (fun x => none)
 (Hints.mk (fun x x_1 => none) (fun s => Nat.testBit 0 s) fun x => []) [(ty3, Mode.ro), (ty9, Mode.ro)]
noncomputable def Kw_FnExactEntryOf := endK C [(ty3, Mode.ro), (ty9, Mode.ro)] [(ty4, 0)] [RV.tmp 4]
noncomputable def Sw_FnExactEntryOf (a0 : Int) (a1 : ByteArray) : Option ((Bool × PUnit) × PUnit) := Fw_FnExactEntryOf.sem (a0, a1, ())
theorem Sw_FnExactEntryOf_eq (a0 : Int) (a1 : ByteArray) : Sw_FnExactEntryOf a0 a1 =
  bif decide ((↑a1.size : Int) > 1048576) then some ((true, ()), ())
else
 (Ss_EntryOf a0 a1).bind fun y =>
  (Si_EntryOf a0 a1).bind fun y_1 =>
   bif !ByteArray.toList y_1.fst.fst == ByteArray.toList y.fst.fst then some ((false, ()), ())
   else some ((true, ()), ()) := by kernel_rfl

end Go.Proofs.YtamkkancfmbanaaDoor.P.It
