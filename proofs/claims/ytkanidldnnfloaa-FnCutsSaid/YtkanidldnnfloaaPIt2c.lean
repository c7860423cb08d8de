/- A part of the proof: It2c. No conditions. -/
import Derived.Test.YtkanidldnnfloaaPG7
import Derived.Test.YtkanidldnnfloaaChecked
import Derived.KernelRfl
set_option linter.unusedVariables false
set_option maxRecDepth 100000
namespace Go.Proofs.Ytkanidldnnfloaa.P.It
open Am
instance noGlob : Glob := ⟨fun _ _ => True, fun _ _ => trivial⟩
-- ptr 46 67 spec.l1Cur
-- ptr 97 5 uint8
abbrev ty1 : Ty := (.raw 1)
abbrev ty2 : Ty := (.int .i64)
abbrev ty3 : Ty := (.int .i64)
abbrev ty4 : Ty := .bool
abbrev ty5 : Ty := (.int .u8)
abbrev ty9 : Ty := .str
abbrev ty12 : Ty := (.int .u64)
abbrev ty20 : Ty := (.raw 2)
abbrev ty21 : Ty := (.int .i32)
abbrev ty22 : Ty := (.slice 5 ty5)
abbrev ty23 : Ty := (.raw 1)
abbrev ty25 : Ty := (.agg (.pair ty3 ty3))
abbrev ty26 : Ty := (.agg (.pair ty3 ty3))
abbrev ty28 : Ty := (.raw 1)
abbrev ty30 : Ty := (.raw 1)
abbrev ty31 : Ty := (.slice 26 ty26)
abbrev ty32 : Ty := (.raw 1)
abbrev ty34 : Ty := (.raw 1)
abbrev ty35 : Ty := (.raw 1)
abbrev ty37 : Ty := (.raw 1)
abbrev ty39 : Ty := (.raw 1)
abbrev ty40 : Ty := (.raw 1)
abbrev ty41 : Ty := (.raw 1)
abbrev ty42 : Ty := (.raw 1)
abbrev ty43 : Ty := (.agg (.pair ty26 (.pair ty26 ty26)))
abbrev ty44 : Ty := (.agg (.pair ty26 (.pair ty26 ty26)))
abbrev ty45 : Ty := (.raw 1)
abbrev ty46 : Ty := (.raw 0)
abbrev ty47 : Ty := (.raw 1)
abbrev ty48 : Ty := (.raw 1)
abbrev ty49 : Ty := (.raw 1)
abbrev ty50 : Ty := (.raw 1)
abbrev ty51 : Ty := (.raw 1)
abbrev ty52 : Ty := (.raw 1)
abbrev ty53 : Ty := (.raw 1)
abbrev ty54 : Ty := (.agg (.pair ty26 ty26))
abbrev ty55 : Ty := (.agg (.pair ty26 ty26))
abbrev ty56 : Ty := (.agg (.pair ty26 (.pair ty26 (.pair ty55 ty55))))
abbrev ty57 : Ty := (.agg (.pair ty26 (.pair ty26 (.pair ty55 ty55))))
abbrev ty59 : Ty := (.raw 1)
abbrev ty60 : Ty := (.raw 1)
abbrev ty61 : Ty := (.slice 57 ty57)
abbrev ty63 : Ty := (.raw 1)
abbrev ty64 : Ty := (.raw 1)
abbrev ty65 : Ty := (.raw 1)
abbrev ty66 : Ty := (.agg (.pair ty22 (.pair ty3 ty3)))
abbrev ty67 : Ty := (.agg (.pair ty22 (.pair ty3 ty3)))
abbrev ty68 : Ty := (.raw 1)
abbrev ty69 : Ty := (.raw 1)
abbrev ty70 : Ty := (.raw 1)
abbrev ty71 : Ty := (.raw 1)
abbrev ty72 : Ty := (.slice 3 ty3)
abbrev ty73 : Ty := (.raw 1)
abbrev ty74 : Ty := (.raw 1)
abbrev ty75 : Ty := (.raw 1)
abbrev ty76 : Ty := (.raw 1)
abbrev ty77 : Ty := (.raw 1)
abbrev ty78 : Ty := (.agg (.pair ty26 ty26))
abbrev ty79 : Ty := (.agg (.pair ty26 ty26))
abbrev ty81 : Ty := (.raw 1)
abbrev ty82 : Ty := (.raw 1)
abbrev ty83 : Ty := (.int .u64)
abbrev ty84 : Ty := (.raw 1)
abbrev ty85 : Ty := (.raw 1)
abbrev ty86 : Ty := (.raw 1)
abbrev ty92 : Ty := (.raw 1)
abbrev ty93 : Ty := (.int .u32)
abbrev ty96 : Ty := (.raw 1)
abbrev ty97 : Ty := (.raw 0)
abbrev ty102 : Ty := (.raw 1)
abbrev ty105 : Ty := (.agg (.pair ty72 (.pair ty3 ty4)))
abbrev ty106 : Ty := (.agg (.pair ty72 (.pair ty3 ty4)))
abbrev ty24 : Ty := (.slice 44 ty44)
abbrev ty104 : Ty := (.slice 106 ty106)
def tys : Tys := [(1, ty1, 8), (2, ty2, 8), (3, ty3, 8), (4, ty4, 1), (5, ty5, 1), (9, ty9, 16), (12, ty12, 8), (20, ty20, 16), (21, ty21, 4), (22, ty22, 24), (23, ty23, 8), (25, ty25, 16), (26, ty26, 16), (28, ty28, 8), (30, ty30, 8), (31, ty31, 24), (32, ty32, 8), (34, ty34, 8), (35, ty35, 8), (37, ty37, 8), (39, ty39, 8), (40, ty40, 8), (41, ty41, 8), (42, ty42, 8), (43, ty43, 48), (44, ty44, 48), (45, ty45, 8), (46, ty46, 8), (47, ty47, 8), (48, ty48, 8), (49, ty49, 8), (50, ty50, 8), (51, ty51, 8), (52, ty52, 8), (53, ty53, 8), (54, ty54, 32), (55, ty55, 32), (56, ty56, 96), (57, ty57, 96), (59, ty59, 8), (60, ty60, 8), (61, ty61, 24), (63, ty63, 8), (64, ty64, 8), (65, ty65, 8), (66, ty66, 40), (67, ty67, 40), (68, ty68, 8), (69, ty69, 8), (70, ty70, 8), (71, ty71, 8), (72, ty72, 24), (73, ty73, 8), (74, ty74, 8), (75, ty75, 8), (76, ty76, 8), (77, ty77, 8), (78, ty78, 32), (79, ty79, 32), (81, ty81, 8), (82, ty82, 8), (83, ty83, 8), (84, ty84, 8), (85, ty85, 8), (86, ty86, 8), (92, ty92, 8), (93, ty93, 4), (96, ty96, 8), (97, ty97, 8), (102, ty102, 8), (105, ty105, 40), (106, ty106, 40), (24, ty24, 24), (104, ty104, 24)]
noncomputable abbrev C : Ctx := mkCtx tys
theorem mix : Try.prog.follows .mixedOrders = true := by kernel_rfl
theorem C_ok : CtxOk Try.prog C := ctx_ok (by kernel_rfl)
def tab0 : Tab := fun _ => none
theorem tab0_ok : TabOk Try.prog tab0 := fun _ _ h => by cases h
theorem tab_cons {tab : Tab} {f : FuncId} {F : Am.Fn} (h : TabOk Try.prog tab) (hF : FnOk Try.prog f F) : TabOk Try.prog (fun g => bif g == f then some F else tab g) := by
  intro g G hg
  dsimp only at hg
  cases hc : g == f with
  | true =>
    rw [hc] at hg
    simp only [cond_true, Option.some.injEq] at hg
    rw [beq_iff_eq] at hc
    subst hc hg
    exact hF
  | false =>
    rw [hc] at hg
    exact h g G hg
def fuel : Nat := 2000
theorem fuel_eq : fuel = 1999 + 1 := rfl
abbrev Rat := Int × Int
abbrev Atm := List Int × Int × Bool
abbrev Cel := Int × List Atm
abbrev Reg := Int × List Cel
abbrev Rw := ByteArray × Cel
abbrev Rel := ByteArray × Int × List Rw
abbrev Nod := Int × Atm × ByteArray × ByteArray × List Int × Int × Int × Int
abbrev Sup := Cel × List (List Int)
abbrev Viw := List Nod × List Sup
abbrev Opn := Int × ByteArray × ByteArray × Cel × List Int
abbrev Sto := List (List Nod) × List (List Rel)
noncomputable def Fw_big : Am.Fn := mkFn C tab0 [0, 1] 6 (fun _ => none) ⟨fun _ _ => none, fun s => Nat.testBit 0 s, fun _ => []⟩ [(ty22, .ro)] [(ty4, 0)] [.tmp 2] (Try.f5.body.getD .skip)
theorem Fw_big_ok : FnOk Try.prog 5 Fw_big := by
  unfold Fw_big
  exact mkFn_ok (fn := Try.f5) mix C_ok tab0_ok Try.func5 (by kernel_rfl) (by kernel_rfl) (by kernel_rfl) (by kernel_rfl) (by decide)
noncomputable def tab_w_big : Tab := fun f => bif f == 5 then some Fw_big else tab0 f
theorem tab_w_big_ok : TabOk Try.prog tab_w_big := tab_cons tab0_ok Fw_big_ok
noncomputable def Fs_l1New : Am.Fn := mkFn C tab_w_big [0, 1, 2, 3, 4, 20, 22, 31] 32 (fun k => bif k == 1 then some 5 else bif k == 3 then some 29 else bif k == 6 then some 13 else bif k == 1000003 then some 25 else none) ⟨fun _ _ => none, fun s => Nat.testBit 2147483648 s, fun r => bif r == 31 then [] else []⟩ [(ty22, .ro)] [(ty67, 1000)] [.tmp 2] (Try.f19.body.getD .skip)
theorem Fs_l1New_ok : FnOk Try.prog 19 Fs_l1New := by
  unfold Fs_l1New
  exact mkFn_ok (fn := Try.f19) mix C_ok tab_w_big_ok Try.func19 (by kernel_rfl) (by kernel_rfl) (by kernel_rfl) (by kernel_rfl) (by decide)
noncomputable def tab_s_l1New : Tab := fun f => bif f == 19 then some Fs_l1New else tab_w_big f
theorem tab_s_l1New_ok : TabOk Try.prog tab_s_l1New := tab_cons tab_w_big_ok Fs_l1New_ok
noncomputable def Fs_l1Byte : Am.Fn := mkFn C tab_s_l1New [0, 1, 3, 6, 7, 11, 14, 15, 19, 20, 26, 27, 30, 31, 37, 38, 39, 41, 42, 44, 51, 52, 55] 58 (fun k => bif k == 1 then some 5 else bif k == 3 then some 13 else bif k == 5 then some 13 else none) ⟨fun _ _ => none, fun s => Nat.testBit 1 s, fun r => bif r == 0 then [32, 39, 44] else []⟩ [(ty67, .ptr 0)] [(ty3, 0)] [.tmp 2] (Try.f42.body.getD .skip)
theorem Fs_l1Byte_ok : FnOk Try.prog 42 Fs_l1Byte := by
  unfold Fs_l1Byte
  exact mkFn_ok (fn := Try.f42) mix C_ok tab_s_l1New_ok Try.func42 (by kernel_rfl) (by kernel_rfl) (by kernel_rfl) (by kernel_rfl) (by decide)
noncomputable def tab_s_l1Byte : Tab := fun f => bif f == 42 then some Fs_l1Byte else tab_s_l1New f
theorem tab_s_l1Byte_ok : TabOk Try.prog tab_s_l1Byte := tab_cons tab_s_l1New_ok Fs_l1Byte_ok
noncomputable def Fs_l1Below : Am.Fn := mkFn C tab_s_l1Byte [0, 1, 2, 3, 5, 6, 7, 8] 37 (fun _ => none) ⟨fun _ _ => none, fun s => Nat.testBit 1 s, fun r => bif r == 0 then [] else []⟩ [(ty67, .ptr 0), (ty3, .ro)] [(ty3, 0)] [.tmp 4] (Try.f23.body.getD .skip)
theorem Fs_l1Below_ok : FnOk Try.prog 23 Fs_l1Below := by
  unfold Fs_l1Below
  exact mkFn_ok (fn := Try.f23) mix C_ok tab_s_l1Byte_ok Try.func23 (by kernel_rfl) (by kernel_rfl) (by kernel_rfl) (by kernel_rfl) (by decide)
noncomputable def tab_s_l1Below : Tab := fun f => bif f == 23 then some Fs_l1Below else tab_s_l1Byte f
theorem tab_s_l1Below_ok : TabOk Try.prog tab_s_l1Below := tab_cons tab_s_l1Byte_ok Fs_l1Below_ok
noncomputable def Fs_l1In : Am.Fn := mkFn C tab_s_l1Below [0, 1, 2, 3, 4, 5] 15 (fun _ => none) ⟨fun _ _ => none, fun s => Nat.testBit 0 s, fun _ => []⟩ [(ty3, .ro), (ty3, .ro), (ty3, .ro)] [(ty4, 0)] [.tmp 6] (Try.f44.body.getD .skip)
theorem Fs_l1In_ok : FnOk Try.prog 44 Fs_l1In := by
  unfold Fs_l1In
  exact mkFn_ok (fn := Try.f44) mix C_ok tab_s_l1Below_ok Try.func44 (by kernel_rfl) (by kernel_rfl) (by kernel_rfl) (by kernel_rfl) (by decide)
noncomputable def tab_s_l1In : Tab := fun f => bif f == 44 then some Fs_l1In else tab_s_l1Below f
theorem tab_s_l1In_ok : TabOk Try.prog tab_s_l1In := tab_cons tab_s_l1Below_ok Fs_l1In_ok
noncomputable def Fs_IsNumber : Am.Fn := mkFn C tab_s_l1In [0, 1] 5 (fun _ => none) ⟨fun _ _ => none, fun s => Nat.testBit 0 s, fun _ => []⟩ [(ty3, .ro)] [(ty4, 0)] [.tmp 2] (Try.f41.body.getD .skip)
theorem Fs_IsNumber_ok : FnOk Try.prog 41 Fs_IsNumber := by
  unfold Fs_IsNumber
  exact mkFn_ok (fn := Try.f41) mix C_ok tab_s_l1In_ok Try.func41 (by kernel_rfl) (by kernel_rfl) (by kernel_rfl) (by kernel_rfl) (by decide)
noncomputable def tab_s_IsNumber : Tab := fun f => bif f == 41 then some Fs_IsNumber else tab_s_l1In f
theorem tab_s_IsNumber_ok : TabOk Try.prog tab_s_IsNumber := tab_cons tab_s_l1In_ok Fs_IsNumber_ok
noncomputable def Fs_l1Abs : Am.Fn := mkFn C tab_s_IsNumber [0, 1] 7 (fun _ => none) ⟨fun _ _ => none, fun s => Nat.testBit 0 s, fun _ => []⟩ [(ty3, .ro)] [(ty3, 0)] [.tmp 2] (Try.f50.body.getD .skip)
theorem Fs_l1Abs_ok : FnOk Try.prog 50 Fs_l1Abs := by
  unfold Fs_l1Abs
  exact mkFn_ok (fn := Try.f50) mix C_ok tab_s_IsNumber_ok Try.func50 (by kernel_rfl) (by kernel_rfl) (by kernel_rfl) (by kernel_rfl) (by decide)
noncomputable def tab_s_l1Abs : Tab := fun f => bif f == 50 then some Fs_l1Abs else tab_s_IsNumber f
theorem tab_s_l1Abs_ok : TabOk Try.prog tab_s_l1Abs := tab_cons tab_s_IsNumber_ok Fs_l1Abs_ok
noncomputable def Fs_GcdOf : Am.Fn := mkFn C tab_s_l1Abs [0, 1, 2, 3] 21 (fun k => bif k == 1000003 then some 3 else none) ⟨fun _ _ => none, fun s => Nat.testBit 0 s, fun _ => []⟩ [(ty3, .ro), (ty3, .ro)] [(ty3, 0)] [.tmp 4] (Try.f49.body.getD .skip)
theorem Fs_GcdOf_ok : FnOk Try.prog 49 Fs_GcdOf := by
  unfold Fs_GcdOf
  exact mkFn_ok (fn := Try.f49) mix C_ok tab_s_l1Abs_ok Try.func49 (by kernel_rfl) (by kernel_rfl) (by kernel_rfl) (by kernel_rfl) (by decide)
noncomputable def tab_s_GcdOf : Tab := fun f => bif f == 49 then some Fs_GcdOf else tab_s_l1Abs f
theorem tab_s_GcdOf_ok : TabOk Try.prog tab_s_GcdOf := tab_cons tab_s_l1Abs_ok Fs_GcdOf_ok
noncomputable def Fs_IsRatio : Am.Fn := mkFn C tab_s_GcdOf [0, 1, 3, 7, 12, 14] 19 (fun _ => none) ⟨fun _ _ => none, fun s => Nat.testBit 0 s, fun _ => []⟩ [(ty26, .ro)] [(ty4, 0)] [.tmp 2] (Try.f31.body.getD .skip)
theorem Fs_IsRatio_ok : FnOk Try.prog 31 Fs_IsRatio := by
  unfold Fs_IsRatio
  exact mkFn_ok (fn := Try.f31) mix C_ok tab_s_GcdOf_ok Try.func31 (by kernel_rfl) (by kernel_rfl) (by kernel_rfl) (by kernel_rfl) (by decide)
noncomputable def tab_s_IsRatio : Tab := fun f => bif f == 31 then some Fs_IsRatio else tab_s_GcdOf f
theorem tab_s_IsRatio_ok : TabOk Try.prog tab_s_IsRatio := tab_cons tab_s_GcdOf_ok Fs_IsRatio_ok
noncomputable def Fs_l2Make : Am.Fn := mkFn C tab_s_IsRatio [0, 1, 2, 3, 4, 5, 6, 7, 8] 40 (fun k => bif k == 1000007 then some 115 else none) ⟨fun _ _ => none, fun s => Nat.testBit 0 s, fun _ => []⟩ [(ty3, .ro), (ty3, .ro)] [(ty26, 0)] [.cell 4 26] (Try.f32.body.getD .skip)
theorem Fs_l2Make_ok : FnOk Try.prog 32 Fs_l2Make := by
  unfold Fs_l2Make
  exact mkFn_ok (fn := Try.f32) mix C_ok tab_s_IsRatio_ok Try.func32 (by kernel_rfl) (by kernel_rfl) (by kernel_rfl) (by kernel_rfl) (by decide)
noncomputable def tab_s_l2Make : Tab := fun f => bif f == 32 then some Fs_l2Make else tab_s_IsRatio f
theorem tab_s_l2Make_ok : TabOk Try.prog tab_s_l2Make := tab_cons tab_s_IsRatio_ok Fs_l2Make_ok
noncomputable def Fs_MakeRatio : Am.Fn := mkFn C tab_s_l2Make [0, 1, 2, 3, 4] 17 (fun _ => none) ⟨fun _ _ => none, fun s => Nat.testBit 0 s, fun _ => []⟩ [(ty3, .ro), (ty3, .ro)] [(ty26, 0)] [.cell 4 26] (Try.f22.body.getD .skip)
theorem Fs_MakeRatio_ok : FnOk Try.prog 22 Fs_MakeRatio := by
  unfold Fs_MakeRatio
  exact mkFn_ok (fn := Try.f22) mix C_ok tab_s_l2Make_ok Try.func22 (by kernel_rfl) (by kernel_rfl) (by kernel_rfl) (by kernel_rfl) (by decide)
noncomputable def tab_s_MakeRatio : Tab := fun f => bif f == 22 then some Fs_MakeRatio else tab_s_l2Make f
theorem tab_s_MakeRatio_ok : TabOk Try.prog tab_s_MakeRatio := tab_cons tab_s_l2Make_ok Fs_MakeRatio_ok
noncomputable def Fs_l1Whole : Am.Fn := mkFn C tab_s_MakeRatio [0, 1, 2] 5 (fun _ => none) ⟨fun _ _ => none, fun s => Nat.testBit 0 s, fun _ => []⟩ [(ty3, .ro)] [(ty26, 0)] [.cell 2 26] (Try.f37.body.getD .skip)
theorem Fs_l1Whole_ok : FnOk Try.prog 37 Fs_l1Whole := by
  unfold Fs_l1Whole
  exact mkFn_ok (fn := Try.f37) mix C_ok tab_s_MakeRatio_ok Try.func37 (by kernel_rfl) (by kernel_rfl) (by kernel_rfl) (by kernel_rfl) (by decide)
noncomputable def tab_s_l1Whole : Tab := fun f => bif f == 37 then some Fs_l1Whole else tab_s_MakeRatio f
theorem tab_s_l1Whole_ok : TabOk Try.prog tab_s_l1Whole := tab_cons tab_s_MakeRatio_ok Fs_l1Whole_ok
noncomputable def Fs_l1Once : Am.Fn := mkFn C tab_s_l1Whole [0, 1, 2, 3] 9 (fun _ => none) ⟨fun _ _ => none, fun s => Nat.testBit 1 s, fun r => bif r == 0 then [] else []⟩ [(ty67, .ptr 0), (ty3, .ro)] [(ty4, 0)] [.tmp 4] (Try.f38.body.getD .skip)
theorem Fs_l1Once_ok : FnOk Try.prog 38 Fs_l1Once := by
  unfold Fs_l1Once
  exact mkFn_ok (fn := Try.f38) mix C_ok tab_s_l1Whole_ok Try.func38 (by kernel_rfl) (by kernel_rfl) (by kernel_rfl) (by kernel_rfl) (by decide)
noncomputable def tab_s_l1Once : Tab := fun f => bif f == 38 then some Fs_l1Once else tab_s_l1Whole f
theorem tab_s_l1Once_ok : TabOk Try.prog tab_s_l1Once := tab_cons tab_s_l1Whole_ok Fs_l1Once_ok
noncomputable def Fs_l1PickInt : Am.Fn := mkFn C tab_s_l1Once [0, 1, 2, 3, 5, 10] 12 (fun k => bif k == 1 then some 19 else none) ⟨fun _ _ => none, fun s => Nat.testBit 1 s, fun r => bif r == 0 then [] else []⟩ [(ty67, .ptr 0), (ty72, .ro)] [(ty3, 0)] [.tmp 4] (Try.f40.body.getD .skip)
theorem Fs_l1PickInt_ok : FnOk Try.prog 40 Fs_l1PickInt := by
  unfold Fs_l1PickInt
  exact mkFn_ok (fn := Try.f40) mix C_ok tab_s_l1Once_ok Try.func40 (by kernel_rfl) (by kernel_rfl) (by kernel_rfl) (by kernel_rfl) (by decide)
noncomputable def tab_s_l1PickInt : Tab := fun f => bif f == 40 then some Fs_l1PickInt else tab_s_l1Once f
theorem tab_s_l1PickInt_ok : TabOk Try.prog tab_s_l1PickInt := tab_cons tab_s_l1Once_ok Fs_l1PickInt_ok
noncomputable def Fs_l1Odd : Am.Fn := mkFn C tab_s_l1PickInt [0, 1] 6 (fun k => bif k == 1 then some 5 else none) ⟨fun _ _ => none, fun s => Nat.testBit 1 s, fun r => bif r == 0 then [] else []⟩ [(ty67, .ptr 0)] [(ty3, 0)] [.tmp 2] (Try.f39.body.getD .skip)
theorem Fs_l1Odd_ok : FnOk Try.prog 39 Fs_l1Odd := by
  unfold Fs_l1Odd
  exact mkFn_ok (fn := Try.f39) mix C_ok tab_s_l1PickInt_ok Try.func39 (by kernel_rfl) (by kernel_rfl) (by kernel_rfl) (by kernel_rfl) (by decide)
noncomputable def tab_s_l1Odd : Tab := fun f => bif f == 39 then some Fs_l1Odd else tab_s_l1PickInt f
theorem tab_s_l1Odd_ok : TabOk Try.prog tab_s_l1Odd := tab_cons tab_s_l1PickInt_ok Fs_l1Odd_ok
noncomputable def Fs_l2Any : Am.Fn := mkFn C tab_s_l1Odd [0, 1, 2] 31 (fun k => bif k == 3 then some 5 else bif k == 5 then some 5 else bif k == 7 then some 5 else bif k == 8 then some 5 else none) ⟨fun _ _ => none, fun s => Nat.testBit 1 s, fun r => bif r == 0 then [] else []⟩ [(ty67, .ptr 0)] [(ty26, 0)] [.cell 2 26] (Try.f21.body.getD .skip)
theorem Fs_l2Any_ok : FnOk Try.prog 21 Fs_l2Any := by
  unfold Fs_l2Any
  exact mkFn_ok (fn := Try.f21) mix C_ok tab_s_l1Odd_ok Try.func21 (by kernel_rfl) (by kernel_rfl) (by kernel_rfl) (by kernel_rfl) (by decide)
noncomputable def tab_s_l2Any : Tab := fun f => bif f == 21 then some Fs_l2Any else tab_s_l1Odd f
theorem tab_s_l2Any_ok : TabOk Try.prog tab_s_l2Any := tab_cons tab_s_l1Odd_ok Fs_l2Any_ok
noncomputable def Fs_l8Track : Am.Fn := mkFn C tab_s_l2Any [0, 1, 3, 4, 5, 37, 40] 43 (fun k => bif k == 1 then some 13 else bif k == 6 then some 61 else bif k == 9 then some 13 else bif k == 1000004 then some 57 else none) ⟨fun _ _ => none, fun s => Nat.testBit 1 s, fun r => bif r == 0 then [] else []⟩ [(ty67, .ptr 0)] [(ty24, 1)] [.tmp 2] (Try.f20.body.getD .skip)
theorem Fs_l8Track_ok : FnOk Try.prog 20 Fs_l8Track := by
  unfold Fs_l8Track
  exact mkFn_ok (fn := Try.f20) mix C_ok tab_s_l2Any_ok Try.func20 (by kernel_rfl) (by kernel_rfl) (by kernel_rfl) (by kernel_rfl) (by decide)
noncomputable def tab_s_l8Track : Tab := fun f => bif f == 20 then some Fs_l8Track else tab_s_l2Any f
theorem tab_s_l8Track_ok : TabOk Try.prog tab_s_l8Track := tab_cons tab_s_l2Any_ok Fs_l8Track_ok
noncomputable def Fs_DrawCutTrack : Am.Fn := mkFn C tab_s_l8Track [0, 1, 3, 4, 5, 6, 7] 22 (fun k => bif k == 4 then some 252 else none) ⟨fun _ _ => none, fun s => Nat.testBit 32 s, fun r => bif r == 5 then [] else []⟩ [(ty22, .ro)] [(ty24, 1), (ty26, 0), (ty26, 0)] [.tmp 2, .cell 3 26, .cell 4 26] (Try.f13.body.getD .skip)
theorem Fs_DrawCutTrack_ok : FnOk Try.prog 13 Fs_DrawCutTrack := by
  unfold Fs_DrawCutTrack
  exact mkFn_ok (fn := Try.f13) mix C_ok tab_s_l8Track_ok Try.func13 (by kernel_rfl) (by kernel_rfl) (by kernel_rfl) (by kernel_rfl) (by decide)
noncomputable def tab_s_DrawCutTrack : Tab := fun f => bif f == 13 then some Fs_DrawCutTrack else tab_s_l8Track f
theorem tab_s_DrawCutTrack_ok : TabOk Try.prog tab_s_DrawCutTrack := tab_cons tab_s_l8Track_ok Fs_DrawCutTrack_ok
noncomputable def Fi_IsNumber : Am.Fn := mkFn C tab_s_DrawCutTrack [0, 1] 9 (fun _ => none) ⟨fun _ _ => none, fun s => Nat.testBit 0 s, fun _ => []⟩ [(ty3, .ro)] [(ty4, 0)] [.tmp 2] (Try.f45.body.getD .skip)
theorem Fi_IsNumber_ok : FnOk Try.prog 45 Fi_IsNumber := by
  unfold Fi_IsNumber
  exact mkFn_ok (fn := Try.f45) mix C_ok tab_s_DrawCutTrack_ok Try.func45 (by kernel_rfl) (by kernel_rfl) (by kernel_rfl) (by kernel_rfl) (by decide)
noncomputable def tab_i_IsNumber : Tab := fun f => bif f == 45 then some Fi_IsNumber else tab_s_DrawCutTrack f
theorem tab_i_IsNumber_ok : TabOk Try.prog tab_i_IsNumber := tab_cons tab_s_DrawCutTrack_ok Fi_IsNumber_ok
noncomputable def Fi_absolute : Am.Fn := mkFn C tab_i_IsNumber [0, 1] 8 (fun _ => none) ⟨fun _ _ => none, fun s => Nat.testBit 0 s, fun _ => []⟩ [(ty3, .ro)] [(ty3, 0)] [.tmp 2] (Try.f34.body.getD .skip)
theorem Fi_absolute_ok : FnOk Try.prog 34 Fi_absolute := by
  unfold Fi_absolute
  exact mkFn_ok (fn := Try.f34) mix C_ok tab_i_IsNumber_ok Try.func34 (by kernel_rfl) (by kernel_rfl) (by kernel_rfl) (by kernel_rfl) (by decide)
noncomputable def tab_i_absolute : Tab := fun f => bif f == 34 then some Fi_absolute else tab_i_IsNumber f
theorem tab_i_absolute_ok : TabOk Try.prog tab_i_absolute := tab_cons tab_i_IsNumber_ok Fi_absolute_ok
noncomputable def Fi_commonDivisor : Am.Fn := mkFn C tab_i_absolute [0, 1, 2, 3] 16 (fun k => bif k == 1000002 then some 3 else none) ⟨fun _ _ => none, fun s => Nat.testBit 0 s, fun _ => []⟩ [(ty3, .ro), (ty3, .ro)] [(ty3, 0)] [.tmp 4] (Try.f54.body.getD .skip)
theorem Fi_commonDivisor_ok : FnOk Try.prog 54 Fi_commonDivisor := by
  unfold Fi_commonDivisor
  exact mkFn_ok (fn := Try.f54) mix C_ok tab_i_absolute_ok Try.func54 (by kernel_rfl) (by kernel_rfl) (by kernel_rfl) (by kernel_rfl) (by decide)
noncomputable def tab_i_commonDivisor : Tab := fun f => bif f == 54 then some Fi_commonDivisor else tab_i_absolute f
theorem tab_i_commonDivisor_ok : TabOk Try.prog tab_i_commonDivisor := tab_cons tab_i_absolute_ok Fi_commonDivisor_ok
noncomputable def Fi_GcdOf : Am.Fn := mkFn C tab_i_commonDivisor [0, 1, 2, 3] 16 (fun _ => none) ⟨fun _ _ => none, fun s => Nat.testBit 0 s, fun _ => []⟩ [(ty3, .ro), (ty3, .ro)] [(ty3, 0)] [.tmp 4] (Try.f46.body.getD .skip)
theorem Fi_GcdOf_ok : FnOk Try.prog 46 Fi_GcdOf := by
  unfold Fi_GcdOf
  exact mkFn_ok (fn := Try.f46) mix C_ok tab_i_commonDivisor_ok Try.func46 (by kernel_rfl) (by kernel_rfl) (by kernel_rfl) (by kernel_rfl) (by decide)
noncomputable def tab_i_GcdOf : Tab := fun f => bif f == 46 then some Fi_GcdOf else tab_i_commonDivisor f
theorem tab_i_GcdOf_ok : TabOk Try.prog tab_i_GcdOf := tab_cons tab_i_commonDivisor_ok Fi_GcdOf_ok
noncomputable def Fi_IsRatio : Am.Fn := mkFn C tab_i_GcdOf [0, 1, 3, 7, 12, 17, 19] 24 (fun _ => none) ⟨fun _ _ => none, fun s => Nat.testBit 0 s, fun _ => []⟩ [(ty26, .ro)] [(ty4, 0)] [.tmp 2] (Try.f27.body.getD .skip)
theorem Fi_IsRatio_ok : FnOk Try.prog 27 Fi_IsRatio := by
  unfold Fi_IsRatio
  exact mkFn_ok (fn := Try.f27) mix C_ok tab_i_GcdOf_ok Try.func27 (by kernel_rfl) (by kernel_rfl) (by kernel_rfl) (by kernel_rfl) (by decide)
noncomputable def tab_i_IsRatio : Tab := fun f => bif f == 27 then some Fi_IsRatio else tab_i_GcdOf f
theorem tab_i_IsRatio_ok : TabOk Try.prog tab_i_IsRatio := tab_cons tab_i_GcdOf_ok Fi_IsRatio_ok
noncomputable def Fi_CompareRatios : Am.Fn := mkFn C tab_i_IsRatio [0, 1, 2, 3, 5, 6, 15, 17, 20, 22] 31 (fun _ => none) ⟨fun _ _ => none, fun s => Nat.testBit 0 s, fun _ => []⟩ [(ty26, .ro), (ty26, .ro)] [(ty3, 0)] [.tmp 4] (Try.f17.body.getD .skip)
theorem Fi_CompareRatios_ok : FnOk Try.prog 17 Fi_CompareRatios := by
  unfold Fi_CompareRatios
  exact mkFn_ok (fn := Try.f17) mix C_ok tab_i_IsRatio_ok Try.func17 (by kernel_rfl) (by kernel_rfl) (by kernel_rfl) (by kernel_rfl) (by decide)
noncomputable def tab_i_CompareRatios : Tab := fun f => bif f == 17 then some Fi_CompareRatios else tab_i_IsRatio f
theorem tab_i_CompareRatios_ok : TabOk Try.prog tab_i_CompareRatios := tab_cons tab_i_IsRatio_ok Fi_CompareRatios_ok
noncomputable def Fi_IsTrack : Am.Fn := mkFn C tab_i_CompareRatios [0, 1, 3, 4, 13, 18, 20, 25, 31, 39, 42, 43, 45] 51 (fun k => bif k == 1000004 then some 57345 else none) ⟨fun _ _ => none, fun s => Nat.testBit 0 s, fun _ => []⟩ [(ty24, .ro)] [(ty4, 0)] [.tmp 2] (Try.f24.body.getD .skip)
theorem Fi_IsTrack_ok : FnOk Try.prog 24 Fi_IsTrack := by
  unfold Fi_IsTrack
  exact mkFn_ok (fn := Try.f24) mix C_ok tab_i_CompareRatios_ok Try.func24 (by kernel_rfl) (by kernel_rfl) (by kernel_rfl) (by kernel_rfl) (by decide)
noncomputable def tab_i_IsTrack : Tab := fun f => bif f == 24 then some Fi_IsTrack else tab_i_CompareRatios f
theorem tab_i_IsTrack_ok : TabOk Try.prog tab_i_IsTrack := tab_cons tab_i_CompareRatios_ok Fi_IsTrack_ok
noncomputable def Fi_NegateRatio : Am.Fn := mkFn C tab_i_IsTrack [0, 1, 2, 7, 10] 13 (fun _ => none) ⟨fun _ _ => none, fun s => Nat.testBit 0 s, fun _ => []⟩ [(ty26, .ro)] [(ty26, 0)] [.cell 2 26] (Try.f59.body.getD .skip)
theorem Fi_NegateRatio_ok : FnOk Try.prog 59 Fi_NegateRatio := by
  unfold Fi_NegateRatio
  exact mkFn_ok (fn := Try.f59) mix C_ok tab_i_IsTrack_ok Try.func59 (by kernel_rfl) (by kernel_rfl) (by kernel_rfl) (by kernel_rfl) (by decide)
noncomputable def tab_i_NegateRatio : Tab := fun f => bif f == 59 then some Fi_NegateRatio else tab_i_IsTrack f
theorem tab_i_NegateRatio_ok : TabOk Try.prog tab_i_NegateRatio := tab_cons tab_i_IsTrack_ok Fi_NegateRatio_ok
noncomputable def Fi_reducedRatio : Am.Fn := mkFn C tab_i_NegateRatio [0, 1, 2, 3, 4, 5, 6] 31 (fun _ => none) ⟨fun _ _ => none, fun s => Nat.testBit 0 s, fun _ => []⟩ [(ty3, .ro), (ty3, .ro)] [(ty26, 0)] [.cell 4 26] (Try.f43.body.getD .skip)
theorem Fi_reducedRatio_ok : FnOk Try.prog 43 Fi_reducedRatio := by
  unfold Fi_reducedRatio
  exact mkFn_ok (fn := Try.f43) mix C_ok tab_i_NegateRatio_ok Try.func43 (by kernel_rfl) (by kernel_rfl) (by kernel_rfl) (by kernel_rfl) (by decide)
noncomputable def tab_i_reducedRatio : Tab := fun f => bif f == 43 then some Fi_reducedRatio else tab_i_NegateRatio f
theorem tab_i_reducedRatio_ok : TabOk Try.prog tab_i_reducedRatio := tab_cons tab_i_NegateRatio_ok Fi_reducedRatio_ok
noncomputable def Fi_AddRatios : Am.Fn := mkFn C tab_i_reducedRatio [0, 1, 2, 3, 4, 14, 16, 19, 21, 25, 27] 31 (fun _ => none) ⟨fun _ _ => none, fun s => Nat.testBit 0 s, fun _ => []⟩ [(ty26, .ro), (ty26, .ro)] [(ty26, 0)] [.cell 4 26] (Try.f25.body.getD .skip)
theorem Fi_AddRatios_ok : FnOk Try.prog 25 Fi_AddRatios := by
  unfold Fi_AddRatios
  exact mkFn_ok (fn := Try.f25) mix C_ok tab_i_reducedRatio_ok Try.func25 (by kernel_rfl) (by kernel_rfl) (by kernel_rfl) (by kernel_rfl) (by decide)
noncomputable def tab_i_AddRatios : Tab := fun f => bif f == 25 then some Fi_AddRatios else tab_i_reducedRatio f
theorem tab_i_AddRatios_ok : TabOk Try.prog tab_i_AddRatios := tab_cons tab_i_reducedRatio_ok Fi_AddRatios_ok
noncomputable def Fi_subtractRatios : Am.Fn := mkFn C tab_i_AddRatios [0, 1, 2, 3, 4] 9 (fun _ => none) ⟨fun _ _ => none, fun s => Nat.testBit 0 s, fun _ => []⟩ [(ty26, .ro), (ty26, .ro)] [(ty26, 0)] [.cell 4 26] (Try.f56.body.getD .skip)
theorem Fi_subtractRatios_ok : FnOk Try.prog 56 Fi_subtractRatios := by
  unfold Fi_subtractRatios
  exact mkFn_ok (fn := Try.f56) mix C_ok tab_i_AddRatios_ok Try.func56 (by kernel_rfl) (by kernel_rfl) (by kernel_rfl) (by kernel_rfl) (by decide)
noncomputable def tab_i_subtractRatios : Tab := fun f => bif f == 56 then some Fi_subtractRatios else tab_i_AddRatios f
theorem tab_i_subtractRatios_ok : TabOk Try.prog tab_i_subtractRatios := tab_cons tab_i_AddRatios_ok Fi_subtractRatios_ok
noncomputable def Fi_DivideRatios : Am.Fn := mkFn C tab_i_subtractRatios [0, 1, 2, 3, 4, 14, 19, 21, 24, 26] 30 (fun _ => none) ⟨fun _ _ => none, fun s => Nat.testBit 0 s, fun _ => []⟩ [(ty26, .ro), (ty26, .ro)] [(ty26, 0)] [.cell 4 26] (Try.f55.body.getD .skip)
theorem Fi_DivideRatios_ok : FnOk Try.prog 55 Fi_DivideRatios := by
  unfold Fi_DivideRatios
  exact mkFn_ok (fn := Try.f55) mix C_ok tab_i_subtractRatios_ok Try.func55 (by kernel_rfl) (by kernel_rfl) (by kernel_rfl) (by kernel_rfl) (by decide)
noncomputable def tab_i_DivideRatios : Tab := fun f => bif f == 55 then some Fi_DivideRatios else tab_i_subtractRatios f
theorem tab_i_DivideRatios_ok : TabOk Try.prog tab_i_DivideRatios := tab_cons tab_i_subtractRatios_ok Fi_DivideRatios_ok
noncomputable def Fi_MultiplyRatios : Am.Fn := mkFn C tab_i_DivideRatios [0, 1, 2, 3, 4, 14, 16, 19, 21] 25 (fun _ => none) ⟨fun _ _ => none, fun s => Nat.testBit 0 s, fun _ => []⟩ [(ty26, .ro), (ty26, .ro)] [(ty26, 0)] [.cell 4 26] (Try.f29.body.getD .skip)
theorem Fi_MultiplyRatios_ok : FnOk Try.prog 29 Fi_MultiplyRatios := by
  unfold Fi_MultiplyRatios
  exact mkFn_ok (fn := Try.f29) mix C_ok tab_i_DivideRatios_ok Try.func29 (by kernel_rfl) (by kernel_rfl) (by kernel_rfl) (by kernel_rfl) (by decide)
noncomputable def tab_i_MultiplyRatios : Tab := fun f => bif f == 29 then some Fi_MultiplyRatios else tab_i_DivideRatios f
theorem tab_i_MultiplyRatios_ok : TabOk Try.prog tab_i_MultiplyRatios := tab_cons tab_i_DivideRatios_ok Fi_MultiplyRatios_ok
noncomputable def Fi_lineBetween : Am.Fn := mkFn C tab_i_MultiplyRatios [0, 1, 2, 3, 4, 5, 6, 7, 8, 9] 24 (fun _ => none) ⟨fun _ _ => none, fun s => Nat.testBit 0 s, fun _ => []⟩ [(ty26, .ro), (ty26, .ro), (ty26, .ro), (ty26, .ro)] [(ty55, 0)] [.cell 8 55] (Try.f47.body.getD .skip)
theorem Fi_lineBetween_ok : FnOk Try.prog 47 Fi_lineBetween := by
  unfold Fi_lineBetween
  exact mkFn_ok (fn := Try.f47) mix C_ok tab_i_MultiplyRatios_ok Try.func47 (by kernel_rfl) (by kernel_rfl) (by kernel_rfl) (by kernel_rfl) (by decide)
noncomputable def tab_i_lineBetween : Tab := fun f => bif f == 47 then some Fi_lineBetween else tab_i_MultiplyRatios f
theorem tab_i_lineBetween_ok : TabOk Try.prog tab_i_lineBetween := tab_cons tab_i_MultiplyRatios_ok Fi_lineBetween_ok
noncomputable def Fi_line_valid : Am.Fn := mkFn C tab_i_lineBetween [0, 1, 3, 7] 11 (fun _ => none) ⟨fun _ _ => none, fun s => Nat.testBit 0 s, fun _ => []⟩ [(ty55, .ro)] [(ty4, 0)] [.tmp 2] (Try.f48.body.getD .skip)
theorem Fi_line_valid_ok : FnOk Try.prog 48 Fi_line_valid := by
  unfold Fi_line_valid
  exact mkFn_ok (fn := Try.f48) mix C_ok tab_i_lineBetween_ok Try.func48 (by kernel_rfl) (by kernel_rfl) (by kernel_rfl) (by kernel_rfl) (by decide)
noncomputable def tab_i_line_valid : Tab := fun f => bif f == 48 then some Fi_line_valid else tab_i_lineBetween f
theorem tab_i_line_valid_ok : TabOk Try.prog tab_i_line_valid := tab_cons tab_i_lineBetween_ok Fi_line_valid_ok
noncomputable def Fi_legBetween : Am.Fn := mkFn C tab_i_line_valid [0, 1, 2, 3, 4, 6, 7, 9, 11, 13, 15, 17, 20, 22, 24, 26, 31, 35] 39 (fun _ => none) ⟨fun _ _ => none, fun s => Nat.testBit 0 s, fun _ => []⟩ [(ty44, .ro), (ty44, .ro)] [(ty57, 0), (ty4, 0)] [.cell 4 57, .tmp 5] (Try.f28.body.getD .skip)
theorem Fi_legBetween_ok : FnOk Try.prog 28 Fi_legBetween := by
  unfold Fi_legBetween
  exact mkFn_ok (fn := Try.f28) mix C_ok tab_i_line_valid_ok Try.func28 (by kernel_rfl) (by kernel_rfl) (by kernel_rfl) (by kernel_rfl) (by decide)
noncomputable def tab_i_legBetween : Tab := fun f => bif f == 28 then some Fi_legBetween else tab_i_line_valid f
theorem tab_i_legBetween_ok : TabOk Try.prog tab_i_legBetween := tab_cons tab_i_line_valid_ok Fi_legBetween_ok
noncomputable def Fi_IsPoint : Am.Fn := mkFn C tab_i_legBetween [0, 1, 2, 3, 5, 6, 11, 15] 21 (fun k => bif k == 1000004 then some 14337 else none) ⟨fun _ _ => none, fun s => Nat.testBit 0 s, fun _ => []⟩ [(ty31, .ro), (ty3, .ro)] [(ty4, 0)] [.tmp 4] (Try.f30.body.getD .skip)
theorem Fi_IsPoint_ok : FnOk Try.prog 30 Fi_IsPoint := by
  unfold Fi_IsPoint
  exact mkFn_ok (fn := Try.f30) mix C_ok tab_i_legBetween_ok Try.func30 (by kernel_rfl) (by kernel_rfl) (by kernel_rfl) (by kernel_rfl) (by decide)
noncomputable def tab_i_IsPoint : Tab := fun f => bif f == 30 then some Fi_IsPoint else tab_i_legBetween f
theorem tab_i_IsPoint_ok : TabOk Try.prog tab_i_IsPoint := tab_cons tab_i_legBetween_ok Fi_IsPoint_ok
noncomputable def Fi_PositionAt : Am.Fn := mkFn C tab_i_IsPoint [0, 1, 2, 3, 6, 7, 8, 9, 10, 11, 20, 25, 28, 33, 35, 42, 43, 46, 54, 55, 59, 60, 63, 64, 68, 69] 78 (fun k => bif k == 1000004 then some 7340041 else none) ⟨fun d i => bif d == 42 then (bif i == 0 then some 50 else bif i == 1 then some 51 else none) else none, fun s => Nat.testBit 0 s, fun _ => []⟩ [(ty24, .ro), (ty26, .ro)] [(ty31, 1), (ty4, 0)] [.tmp 4, .tmp 5] (Try.f10.body.getD .skip)
theorem Fi_PositionAt_ok : FnOk Try.prog 10 Fi_PositionAt := by
  unfold Fi_PositionAt
  exact mkFn_ok (fn := Try.f10) mix C_ok tab_i_IsPoint_ok Try.func10 (by kernel_rfl) (by kernel_rfl) (by kernel_rfl) (by kernel_rfl) (by decide)
noncomputable def tab_i_PositionAt : Tab := fun f => bif f == 10 then some Fi_PositionAt else tab_i_IsPoint f
theorem tab_i_PositionAt_ok : TabOk Try.prog tab_i_PositionAt := tab_cons tab_i_IsPoint_ok Fi_PositionAt_ok
noncomputable def Fi_CutTrack : Am.Fn := mkFn C tab_i_PositionAt [0, 1, 2, 3, 4, 5, 8, 9, 10, 11, 12, 13, 14, 15, 21, 40, 41, 43, 44, 48, 52, 54, 60, 76, 77, 79, 80] 89 (fun k => bif k == 1000007 then some 1970324836979761 else none) ⟨fun d i => bif d == 15 then (bif i == 0 then some 19 else bif i == 1 then some 20 else none) else bif d == 21 then (bif i == 0 then some 25 else bif i == 1 then some 26 else none) else none, fun s => Nat.testBit 0 s, fun _ => []⟩ [(ty24, .ro), (ty26, .ro), (ty26, .ro)] [(ty24, 1), (ty4, 0)] [.tmp 6, .tmp 7] (Try.f14.body.getD .skip)
theorem Fi_CutTrack_ok : FnOk Try.prog 14 Fi_CutTrack := by
  unfold Fi_CutTrack
  exact mkFn_ok (fn := Try.f14) mix C_ok tab_i_PositionAt_ok Try.func14 (by kernel_rfl) (by kernel_rfl) (by kernel_rfl) (by kernel_rfl) (by decide)
noncomputable def tab_i_CutTrack : Tab := fun f => bif f == 14 then some Fi_CutTrack else tab_i_PositionAt f
theorem tab_i_CutTrack_ok : TabOk Try.prog tab_i_CutTrack := tab_cons tab_i_PositionAt_ok Fi_CutTrack_ok
noncomputable def Fs_l1Less : Am.Fn := mkFn C tab_i_CutTrack [0, 1, 2, 3, 5, 7, 10, 12] 16 (fun _ => none) ⟨fun _ _ => none, fun s => Nat.testBit 0 s, fun _ => []⟩ [(ty26, .ro), (ty26, .ro)] [(ty4, 0)] [.tmp 4] (Try.f36.body.getD .skip)
theorem Fs_l1Less_ok : FnOk Try.prog 36 Fs_l1Less := by
  unfold Fs_l1Less
  exact mkFn_ok (fn := Try.f36) mix C_ok tab_i_CutTrack_ok Try.func36 (by kernel_rfl) (by kernel_rfl) (by kernel_rfl) (by kernel_rfl) (by decide)
noncomputable def tab_s_l1Less : Tab := fun f => bif f == 36 then some Fs_l1Less else tab_i_CutTrack f
theorem tab_s_l1Less_ok : TabOk Try.prog tab_s_l1Less := tab_cons tab_i_CutTrack_ok Fs_l1Less_ok
noncomputable def Fs_IsTrack : Am.Fn := mkFn C tab_s_l1Less [0, 1, 3, 10, 12, 13, 18, 20, 21, 27, 29, 30, 39, 42, 43, 45, 47, 48] 57 (fun k => bif k == 1000002 then some 9 else none) ⟨fun _ _ => none, fun s => Nat.testBit 0 s, fun _ => []⟩ [(ty24, .ro)] [(ty4, 0)] [.tmp 2] (Try.f26.body.getD .skip)
theorem Fs_IsTrack_ok : FnOk Try.prog 26 Fs_IsTrack := by
  unfold Fs_IsTrack
  exact mkFn_ok (fn := Try.f26) mix C_ok tab_s_l1Less_ok Try.func26 (by kernel_rfl) (by kernel_rfl) (by kernel_rfl) (by kernel_rfl) (by decide)
noncomputable def tab_s_IsTrack : Tab := fun f => bif f == 26 then some Fs_IsTrack else tab_s_l1Less f
theorem tab_s_IsTrack_ok : TabOk Try.prog tab_s_IsTrack := tab_cons tab_s_l1Less_ok Fs_IsTrack_ok
noncomputable def Fs_NegateRatio : Am.Fn := mkFn C tab_s_IsTrack [0, 1, 2, 7, 10] 13 (fun _ => none) ⟨fun _ _ => none, fun s => Nat.testBit 0 s, fun _ => []⟩ [(ty26, .ro)] [(ty26, 0)] [.cell 2 26] (Try.f61.body.getD .skip)
theorem Fs_NegateRatio_ok : FnOk Try.prog 61 Fs_NegateRatio := by
  unfold Fs_NegateRatio
  exact mkFn_ok (fn := Try.f61) mix C_ok tab_s_IsTrack_ok Try.func61 (by kernel_rfl) (by kernel_rfl) (by kernel_rfl) (by kernel_rfl) (by decide)
noncomputable def tab_s_NegateRatio : Tab := fun f => bif f == 61 then some Fs_NegateRatio else tab_s_IsTrack f
theorem tab_s_NegateRatio_ok : TabOk Try.prog tab_s_NegateRatio := tab_cons tab_s_IsTrack_ok Fs_NegateRatio_ok
noncomputable def Fs_AddRatios : Am.Fn := mkFn C tab_s_NegateRatio [0, 1, 2, 3, 4, 14, 16, 19, 21, 25, 27] 31 (fun _ => none) ⟨fun _ _ => none, fun s => Nat.testBit 0 s, fun _ => []⟩ [(ty26, .ro), (ty26, .ro)] [(ty26, 0)] [.cell 4 26] (Try.f11.body.getD .skip)
theorem Fs_AddRatios_ok : FnOk Try.prog 11 Fs_AddRatios := by
  unfold Fs_AddRatios
  exact mkFn_ok (fn := Try.f11) mix C_ok tab_s_NegateRatio_ok Try.func11 (by kernel_rfl) (by kernel_rfl) (by kernel_rfl) (by kernel_rfl) (by decide)
noncomputable def tab_s_AddRatios : Tab := fun f => bif f == 11 then some Fs_AddRatios else tab_s_NegateRatio f
theorem tab_s_AddRatios_ok : TabOk Try.prog tab_s_AddRatios := tab_cons tab_s_NegateRatio_ok Fs_AddRatios_ok
noncomputable def Fs_DivideRatios : Am.Fn := mkFn C tab_s_AddRatios [0, 1, 2, 3, 4, 14, 19, 21, 24, 26] 30 (fun _ => none) ⟨fun _ _ => none, fun s => Nat.testBit 0 s, fun _ => []⟩ [(ty26, .ro), (ty26, .ro)] [(ty26, 0)] [.cell 4 26] (Try.f60.body.getD .skip)
theorem Fs_DivideRatios_ok : FnOk Try.prog 60 Fs_DivideRatios := by
  unfold Fs_DivideRatios
  exact mkFn_ok (fn := Try.f60) mix C_ok tab_s_AddRatios_ok Try.func60 (by kernel_rfl) (by kernel_rfl) (by kernel_rfl) (by kernel_rfl) (by decide)
noncomputable def tab_s_DivideRatios : Tab := fun f => bif f == 60 then some Fs_DivideRatios else tab_s_AddRatios f
theorem tab_s_DivideRatios_ok : TabOk Try.prog tab_s_DivideRatios := tab_cons tab_s_AddRatios_ok Fs_DivideRatios_ok
noncomputable def Fs_MultiplyRatios : Am.Fn := mkFn C tab_s_DivideRatios [0, 1, 2, 3, 4, 14, 16, 19, 21] 25 (fun _ => none) ⟨fun _ _ => none, fun s => Nat.testBit 0 s, fun _ => []⟩ [(ty26, .ro), (ty26, .ro)] [(ty26, 0)] [.cell 4 26] (Try.f58.body.getD .skip)
theorem Fs_MultiplyRatios_ok : FnOk Try.prog 58 Fs_MultiplyRatios := by
  unfold Fs_MultiplyRatios
  exact mkFn_ok (fn := Try.f58) mix C_ok tab_s_DivideRatios_ok Try.func58 (by kernel_rfl) (by kernel_rfl) (by kernel_rfl) (by kernel_rfl) (by decide)
noncomputable def tab_s_MultiplyRatios : Tab := fun f => bif f == 58 then some Fs_MultiplyRatios else tab_s_DivideRatios f
theorem tab_s_MultiplyRatios_ok : TabOk Try.prog tab_s_MultiplyRatios := tab_cons tab_s_DivideRatios_ok Fs_MultiplyRatios_ok
noncomputable def Fs_l8Through : Am.Fn := mkFn C tab_s_MultiplyRatios [0, 1, 2, 3, 4, 5, 6, 7, 8, 9] 27 (fun _ => none) ⟨fun _ _ => none, fun s => Nat.testBit 0 s, fun _ => []⟩ [(ty26, .ro), (ty26, .ro), (ty26, .ro), (ty26, .ro)] [(ty79, 0)] [.cell 8 79] (Try.f57.body.getD .skip)
theorem Fs_l8Through_ok : FnOk Try.prog 57 Fs_l8Through := by
  unfold Fs_l8Through
  exact mkFn_ok (fn := Try.f57) mix C_ok tab_s_MultiplyRatios_ok Try.func57 (by kernel_rfl) (by kernel_rfl) (by kernel_rfl) (by kernel_rfl) (by decide)
noncomputable def tab_s_l8Through : Tab := fun f => bif f == 57 then some Fs_l8Through else tab_s_MultiplyRatios f
theorem tab_s_l8Through_ok : TabOk Try.prog tab_s_l8Through := tab_cons tab_s_MultiplyRatios_ok Fs_l8Through_ok
noncomputable def Fs_l8Leg : Am.Fn := mkFn C tab_s_l8Through [0, 1, 2, 3, 4, 5, 7, 8, 9, 11, 13, 15, 18, 20, 22, 24, 29, 33, 38, 43] 47 (fun _ => none) ⟨fun _ _ => none, fun s => Nat.testBit 0 s, fun _ => []⟩ [(ty44, .ro), (ty44, .ro)] [(ty79, 0), (ty79, 0), (ty4, 0)] [.cell 4 79, .cell 5 79, .tmp 6] (Try.f51.body.getD .skip)
theorem Fs_l8Leg_ok : FnOk Try.prog 51 Fs_l8Leg := by
  unfold Fs_l8Leg
  exact mkFn_ok (fn := Try.f51) mix C_ok tab_s_l8Through_ok Try.func51 (by kernel_rfl) (by kernel_rfl) (by kernel_rfl) (by kernel_rfl) (by decide)
noncomputable def tab_s_l8Leg : Tab := fun f => bif f == 51 then some Fs_l8Leg else tab_s_l8Through f
theorem tab_s_l8Leg_ok : TabOk Try.prog tab_s_l8Leg := tab_cons tab_s_l8Through_ok Fs_l8Leg_ok
noncomputable def Fs_l8Value : Am.Fn := mkFn C tab_s_l8Leg [0, 1, 2, 3, 4, 5, 9] 12 (fun _ => none) ⟨fun _ _ => none, fun s => Nat.testBit 0 s, fun _ => []⟩ [(ty79, .ro), (ty26, .ro)] [(ty26, 0)] [.cell 4 26] (Try.f52.body.getD .skip)
theorem Fs_l8Value_ok : FnOk Try.prog 52 Fs_l8Value := by
  unfold Fs_l8Value
  exact mkFn_ok (fn := Try.f52) mix C_ok tab_s_l8Leg_ok Try.func52 (by kernel_rfl) (by kernel_rfl) (by kernel_rfl) (by kernel_rfl) (by decide)
noncomputable def tab_s_l8Value : Tab := fun f => bif f == 52 then some Fs_l8Value else tab_s_l8Leg f
theorem tab_s_l8Value_ok : TabOk Try.prog tab_s_l8Value := tab_cons tab_s_l8Leg_ok Fs_l8Value_ok
noncomputable def Fs_IsPoint : Am.Fn := mkFn C tab_s_l8Value [0, 1, 2, 3, 5, 12, 14] 22 (fun k => bif k == 1000002 then some 35 else none) ⟨fun _ _ => none, fun s => Nat.testBit 0 s, fun _ => []⟩ [(ty31, .ro), (ty3, .ro)] [(ty4, 0)] [.tmp 4] (Try.f53.body.getD .skip)
theorem Fs_IsPoint_ok : FnOk Try.prog 53 Fs_IsPoint := by
  unfold Fs_IsPoint
  exact mkFn_ok (fn := Try.f53) mix C_ok tab_s_l8Value_ok Try.func53 (by kernel_rfl) (by kernel_rfl) (by kernel_rfl) (by kernel_rfl) (by decide)
noncomputable def tab_s_IsPoint : Tab := fun f => bif f == 53 then some Fs_IsPoint else tab_s_l8Value f
theorem tab_s_IsPoint_ok : TabOk Try.prog tab_s_IsPoint := tab_cons tab_s_l8Value_ok Fs_IsPoint_ok
noncomputable def Fs_PositionAt : Am.Fn := mkFn C tab_s_IsPoint [0, 1, 2, 3, 6, 7, 8, 9, 10, 26, 28, 29, 33, 35, 36, 38, 40, 41, 47, 50, 51, 58, 60, 61, 65, 66, 69, 71, 73] 96 (fun k => bif k == 1000004 then some 73 else none) ⟨fun d i => bif d == 65 then (bif i == 0 then some 76 else bif i == 1 then some 77 else bif i == 2 then some 78 else none) else none, fun s => Nat.testBit 0 s, fun _ => []⟩ [(ty24, .ro), (ty26, .ro)] [(ty31, 1), (ty4, 0)] [.tmp 4, .tmp 5] (Try.f35.body.getD .skip)
theorem Fs_PositionAt_ok : FnOk Try.prog 35 Fs_PositionAt := by
  unfold Fs_PositionAt
  exact mkFn_ok (fn := Try.f35) mix C_ok tab_s_IsPoint_ok Try.func35 (by kernel_rfl) (by kernel_rfl) (by kernel_rfl) (by kernel_rfl) (by decide)
noncomputable def tab_s_PositionAt : Tab := fun f => bif f == 35 then some Fs_PositionAt else tab_s_IsPoint f
theorem tab_s_PositionAt_ok : TabOk Try.prog tab_s_PositionAt := tab_cons tab_s_IsPoint_ok Fs_PositionAt_ok
noncomputable def Fs_CutTrack : Am.Fn := mkFn C tab_s_PositionAt [0, 1, 2, 3, 4, 5, 8, 9, 10, 11, 12, 13, 14, 20, 39, 40, 42, 43, 54, 56, 57, 61, 63, 64, 70, 72, 81, 82, 84, 85] 95 (fun k => bif k == 1000007 then some 13361 else none) ⟨fun d i => bif d == 14 then (bif i == 0 then some 18 else bif i == 1 then some 19 else none) else bif d == 20 then (bif i == 0 then some 24 else bif i == 1 then some 25 else none) else none, fun s => Nat.testBit 0 s, fun _ => []⟩ [(ty24, .ro), (ty26, .ro), (ty26, .ro)] [(ty24, 1), (ty4, 0)] [.tmp 6, .tmp 7] (Try.f15.body.getD .skip)
theorem Fs_CutTrack_ok : FnOk Try.prog 15 Fs_CutTrack := by
  unfold Fs_CutTrack
  exact mkFn_ok (fn := Try.f15) mix C_ok tab_s_PositionAt_ok Try.func15 (by kernel_rfl) (by kernel_rfl) (by kernel_rfl) (by kernel_rfl) (by decide)
noncomputable def tab_s_CutTrack : Tab := fun f => bif f == 15 then some Fs_CutTrack else tab_s_PositionAt f
theorem tab_s_CutTrack_ok : TabOk Try.prog tab_s_CutTrack := tab_cons tab_s_PositionAt_ok Fs_CutTrack_ok
noncomputable def Fw_point : Am.Fn := mkFn C tab_s_CutTrack [0, 1, 2, 3, 5, 6, 7, 19, 21] 36 (fun k => bif k == 1000003 then some 99 else none) ⟨fun _ _ => none, fun s => Nat.testBit 0 s, fun _ => []⟩ [(ty22, .ro), (ty3, .ro)] [(ty31, 1)] [.tmp 4] (Try.f9.body.getD .skip)
theorem Fw_point_ok : FnOk Try.prog 9 Fw_point := by
  unfold Fw_point
  exact mkFn_ok (fn := Try.f9) mix C_ok tab_s_CutTrack_ok Try.func9 (by kernel_rfl) (by kernel_rfl) (by kernel_rfl) (by kernel_rfl) (by decide)
noncomputable def tab_w_point : Tab := fun f => bif f == 9 then some Fw_point else tab_s_CutTrack f
theorem tab_w_point_ok : TabOk Try.prog tab_w_point := tab_cons tab_s_CutTrack_ok Fw_point_ok
noncomputable def Fi_legsOf : Am.Fn := mkFn C tab_w_point [0, 1, 4, 5, 6, 7, 8, 9, 16, 17, 20, 22, 25, 29, 41, 42, 45, 47, 49] 61 (fun k => bif k == 1000008 then some 193 else none) ⟨fun d i => bif d == 41 then (bif i == 0 then some 52 else bif i == 1 then some 53 else none) else none, fun s => Nat.testBit 0 s, fun _ => []⟩ [(ty24, .ro)] [(ty61, 1), (ty4, 0)] [.tmp 2, .tmp 3] (Try.f33.body.getD .skip)
theorem Fi_legsOf_ok : FnOk Try.prog 33 Fi_legsOf := by
  unfold Fi_legsOf
  exact mkFn_ok (fn := Try.f33) mix C_ok tab_w_point_ok Try.func33 (by kernel_rfl) (by kernel_rfl) (by kernel_rfl) (by kernel_rfl) (by decide)
noncomputable def tab_i_legsOf : Tab := fun f => bif f == 33 then some Fi_legsOf else tab_w_point f
theorem tab_i_legsOf_ok : TabOk Try.prog tab_i_legsOf := tab_cons tab_w_point_ok Fi_legsOf_ok
noncomputable def Fi_SpeedOf : Am.Fn := mkFn C tab_i_legsOf [0, 1, 2, 4, 5, 6, 7, 8, 9, 10, 11, 20, 24, 26, 27, 29, 30, 32, 36, 38] 50 (fun k => bif k == 1000006 then some 7340116 else bif k == 1000009 then some 30072111188 else none) ⟨fun d i => bif d == 11 then (bif i == 0 then some 14 else bif i == 1 then some 15 else none) else none, fun s => Nat.testBit 0 s, fun _ => []⟩ [(ty24, .ro)] [(ty26, 0), (ty4, 0)] [.cell 2 26, .tmp 3] (Try.f12.body.getD .skip)
theorem Fi_SpeedOf_ok : FnOk Try.prog 12 Fi_SpeedOf := by
  unfold Fi_SpeedOf
  exact mkFn_ok (fn := Try.f12) mix C_ok tab_i_legsOf_ok Try.func12 (by kernel_rfl) (by kernel_rfl) (by kernel_rfl) (by kernel_rfl) (by decide)
noncomputable def tab_i_SpeedOf : Tab := fun f => bif f == 12 then some Fi_SpeedOf else tab_i_legsOf f
theorem tab_i_SpeedOf_ok : TabOk Try.prog tab_i_SpeedOf := tab_cons tab_i_legsOf_ok Fi_SpeedOf_ok
noncomputable def Fw_samePoint : Am.Fn := mkFn C tab_i_SpeedOf [0, 1, 2, 3, 5, 17, 19, 21, 23] 26 (fun k => bif k == 1000004 then some 35 else none) ⟨fun _ _ => none, fun s => Nat.testBit 0 s, fun _ => []⟩ [(ty31, .ro), (ty31, .ro)] [(ty4, 0)] [.tmp 4] (Try.f16.body.getD .skip)
theorem Fw_samePoint_ok : FnOk Try.prog 16 Fw_samePoint := by
  unfold Fw_samePoint
  exact mkFn_ok (fn := Try.f16) mix C_ok tab_i_SpeedOf_ok Try.func16 (by kernel_rfl) (by kernel_rfl) (by kernel_rfl) (by kernel_rfl) (by decide)
noncomputable def tab_w_samePoint : Tab := fun f => bif f == 16 then some Fw_samePoint else tab_i_SpeedOf f
theorem tab_w_samePoint_ok : TabOk Try.prog tab_w_samePoint := tab_cons tab_i_SpeedOf_ok Fw_samePoint_ok
noncomputable def Fi_JoinTracks : Am.Fn := mkFn C tab_w_samePoint [0, 1, 2, 3, 15, 19, 21, 22, 38] 41 (fun _ => none) ⟨fun _ _ => none, fun s => Nat.testBit 0 s, fun _ => []⟩ [(ty24, .ro), (ty24, .ro)] [(ty24, 1), (ty4, 0)] [.tmp 4, .tmp 5] (Try.f18.body.getD .skip)
theorem Fi_JoinTracks_ok : FnOk Try.prog 18 Fi_JoinTracks := by
  unfold Fi_JoinTracks
  exact mkFn_ok (fn := Try.f18) mix C_ok tab_w_samePoint_ok Try.func18 (by kernel_rfl) (by kernel_rfl) (by kernel_rfl) (by kernel_rfl) (by decide)
noncomputable def tab_i_JoinTracks : Tab := fun f => bif f == 18 then some Fi_JoinTracks else tab_w_samePoint f
theorem tab_i_JoinTracks_ok : TabOk Try.prog tab_i_JoinTracks := tab_cons tab_w_samePoint_ok Fi_JoinTracks_ok
noncomputable def Fw_FnCuts : Am.Fn := mkFn C tab_i_JoinTracks [0, 1, 3, 4, 5, 6, 7, 8, 9, 10, 11, 12, 13, 14, 15, 16, 17, 18, 19, 20, 21, 22, 23, 24, 27, 33, 40, 57, 59, 60, 65, 67, 68, 73, 78, 105, 107, 108, 109, 115, 121, 123, 124] 148 (fun _ => none) ⟨fun d i => bif d == 27 then (bif i == 0 then some 30 else bif i == 1 then some 31 else bif i == 2 then some 32 else none) else bif d == 33 then (bif i == 0 then some 38 else bif i == 1 then some 39 else none) else bif d == 40 then (bif i == 0 then some 45 else bif i == 1 then some 46 else none) else bif d == 57 then (bif i == 0 then some 63 else bif i == 1 then some 64 else none) else bif d == 65 then (bif i == 0 then some 71 else bif i == 1 then some 72 else none) else bif d == 73 then (bif i == 0 then some 76 else bif i == 1 then some 77 else none) else bif d == 78 then (bif i == 0 then some 81 else bif i == 1 then some 82 else none) else bif d == 105 then (bif i == 0 then some 113 else bif i == 1 then some 114 else none) else bif d == 115 then (bif i == 0 then some 119 else bif i == 1 then some 120 else none) else bif d == 121 then (bif i == 0 then some 127 else bif i == 1 then some 128 else none) else none, fun s => Nat.testBit 0 s, fun _ => []⟩ [(ty22, .ro)] [(ty4, 0)] [.tmp 2] (Try.f4.body.getD .skip)
theorem Fw_FnCuts_ok : FnOk Try.prog 4 Fw_FnCuts := by
  unfold Fw_FnCuts
  exact mkFn_ok (fn := Try.f4) mix C_ok tab_i_JoinTracks_ok Try.func4 (by kernel_rfl) (by kernel_rfl) (by kernel_rfl) (by kernel_rfl) (by decide)
noncomputable def tab_w_FnCuts : Tab := fun f => bif f == 4 then some Fw_FnCuts else tab_i_JoinTracks f
theorem tab_w_FnCuts_ok : TabOk Try.prog tab_w_FnCuts := tab_cons tab_i_JoinTracks_ok Fw_FnCuts_ok
end Go.Proofs.Ytkanidldnnfloaa.P.It
