/- A part of the proof: It2e. No conditions. -/
import Derived.Test.YtamkkancfmbanaaDoorPG7
import Derived.Test.YtamkkancfmbanaaDoorPShE
import Derived.Test.YtamkkancfmbanaaDoorChecked
import Derived.KernelRfl
set_option linter.unusedVariables false
set_option maxRecDepth 100000
namespace Go.Proofs.YtamkkancfmbanaaDoor.P.It
open Am
instance theGlob : Glob := tabGlob Tryd.prog 3 (by kernel_rfl)
-- ptr 69 5 uint8
-- ptr 70 72 errors.errorString
abbrev ty1 : Ty := (.raw 1)
abbrev ty2 : Ty := (.int .i64)
abbrev ty3 : Ty := (.int .i64)
abbrev ty4 : Ty := .bool
abbrev ty5 : Ty := (.int .u8)
abbrev ty9 : Ty := .str
abbrev ty12 : Ty := (.int .u64)
abbrev ty20 : Ty := (.raw 2)
abbrev ty21 : Ty := (.int .i32)
abbrev ty22 : Ty := (.raw 1)
abbrev ty23 : Ty := (.raw 1)
abbrev ty25 : Ty := (.raw 1)
abbrev ty26 : Ty := (.raw 1)
abbrev ty27 : Ty := (.raw 1)
abbrev ty28 : Ty := (.raw 1)
abbrev ty29 : Ty := (.raw 1)
abbrev ty30 : Ty := (.slice 9 ty9)
abbrev ty31 : Ty := (.raw 1)
abbrev ty33 : Ty := (.raw 1)
abbrev ty34 : Ty := (.raw 1)
abbrev ty35 : Ty := (.raw 1)
abbrev ty36 : Ty := (.raw 2)
abbrev ty37 : Ty := (.raw 2)
abbrev ty39 : Ty := (.raw 1)
abbrev ty40 : Ty := (.raw 1)
abbrev ty41 : Ty := (.raw 1)
abbrev ty42 : Ty := (.int .i64)
abbrev ty43 : Ty := (.slice 5 ty5)
abbrev ty45 : Ty := (.raw 1)
abbrev ty46 : Ty := (.raw 0)
abbrev ty47 : Ty := (.raw 1)
abbrev ty48 : Ty := (.raw 1)
abbrev ty50 : Ty := (.int .u64)
abbrev ty51 : Ty := (.raw 1)
abbrev ty52 : Ty := (.raw 1)
abbrev ty54 : Ty := (.raw 1)
abbrev ty56 : Ty := (.raw 1)
abbrev ty57 : Ty := (.int .u64)
abbrev ty58 : Ty := (.raw 1)
abbrev ty61 : Ty := (.raw 1)
abbrev ty62 : Ty := (.raw 1)
abbrev ty63 : Ty := (.raw 1)
abbrev ty65 : Ty := (.int .u32)
abbrev ty67 : Ty := (.raw 1)
abbrev ty68 : Ty := (.raw 1)
abbrev ty69 : Ty := (.raw 0)
abbrev ty70 : Ty := (.raw 0)
abbrev ty71 : Ty := (.agg ty9)
abbrev ty72 : Ty := (.agg ty9)
abbrev ty73 : Ty := (.raw 1)
abbrev ty76 : Ty := (.raw 1)
abbrev ty82 : Ty := (.raw 1)
abbrev ty85 : Ty := (.raw 1)
def tys : Tys := [(1, ty1, 8), (2, ty2, 8), (3, ty3, 8), (4, ty4, 1), (5, ty5, 1), (9, ty9, 16), (12, ty12, 8), (20, ty20, 16), (21, ty21, 4), (22, ty22, 8), (23, ty23, 8), (25, ty25, 8), (26, ty26, 8), (27, ty27, 8), (28, ty28, 8), (29, ty29, 8), (30, ty30, 24), (31, ty31, 8), (33, ty33, 8), (34, ty34, 8), (35, ty35, 8), (36, ty36, 16), (37, ty37, 16), (39, ty39, 8), (40, ty40, 8), (41, ty41, 8), (42, ty42, 8), (43, ty43, 24), (45, ty45, 8), (46, ty46, 8), (47, ty47, 8), (48, ty48, 8), (50, ty50, 8), (51, ty51, 8), (52, ty52, 8), (54, ty54, 8), (56, ty56, 8), (57, ty57, 8), (58, ty58, 8), (61, ty61, 8), (62, ty62, 8), (63, ty63, 8), (65, ty65, 4), (67, ty67, 8), (68, ty68, 8), (69, ty69, 8), (70, ty70, 8), (71, ty71, 16), (72, ty72, 16), (73, ty73, 8), (76, ty76, 8), (82, ty82, 8), (85, ty85, 8)]
noncomputable abbrev C : Ctx := mkCtx tys
theorem mix : Tryd.prog.follows .mixedOrders = true := by kernel_rfl
theorem C_ok : CtxOk Tryd.prog C := ctx_ok (by kernel_rfl)
def tab0 : Tab := fun _ => none
theorem tab0_ok : TabOk Tryd.prog tab0 := fun _ _ h => by cases h
theorem tab_cons {tab : Tab} {f : FuncId} {F : Am.Fn} (h : TabOk Tryd.prog tab) (hF : FnOk Tryd.prog f F) : TabOk Tryd.prog (fun g => bif g == f then some F else tab g) := by
  intro g G hg
  dsimp only at hg
  cases hc : g == f with
  | true =>
    rw [hc] at hg
    simp only [cond_true, Option.some.injEq] at hg
    rw [beq_iff_eq] at hc
    subst hc hg
    exact hF
  | false =>
    rw [hc] at hg
    exact h g G hg
def fuel : Nat := 2000
theorem fuel_eq : fuel = 1999 + 1 := rfl
abbrev Rat := Int × Int
abbrev Atm := List Int × Int × Bool
abbrev Cel := Int × List Atm
abbrev Reg := Int × List Cel
abbrev Rw := ByteArray × Cel
abbrev Rel := ByteArray × Int × List Rw
abbrev Nod := Int × Atm × ByteArray × ByteArray × List Int × Int × Int × Int
abbrev Sup := Cel × List (List Int)
abbrev Viw := List Nod × List Sup
abbrev Opn := Int × ByteArray × ByteArray × Cel × List Int
abbrev Sto := List (List Nod) × List (List Rel)
noncomputable def Fs_l1In : Am.Fn := mkFn C tab0 [0, 1, 2, 3, 4, 5] 15 (fun _ => none) ⟨fun _ _ => none, fun s => Nat.testBit 0 s, fun _ => []⟩ [(ty3, .ro), (ty3, .ro), (ty3, .ro)] [(ty4, 0)] [.tmp 6] (Tryd.f9.body.getD .skip)
theorem Fs_l1In_ok : FnOk Tryd.prog 9 Fs_l1In := by
  unfold Fs_l1In
  exact mkFn_ok (fn := Tryd.f9) mix C_ok tab0_ok Tryd.func9 (by kernel_rfl) (by kernel_rfl) (by kernel_rfl) (by kernel_rfl) (by decide)
noncomputable def tab_s_l1In : Tab := fun f => bif f == 9 then some Fs_l1In else tab0 f
theorem tab_s_l1In_ok : TabOk Tryd.prog tab_s_l1In := tab_cons tab0_ok Fs_l1In_ok
noncomputable def Fs_FormatInt : Am.Fn := mkFn C tab_s_l1In [0, 1, 3, 4, 5, 17] 30 (fun k => bif k == 1000003 then some 25 else none) ⟨fun _ _ => none, fun s => Nat.testBit 0 s, fun _ => []⟩ [(ty3, .ro)] [(ty9, 0)] [.tmp 2] (Tryd.f10.body.getD .skip)
theorem Fs_FormatInt_ok : FnOk Tryd.prog 10 Fs_FormatInt := by
  unfold Fs_FormatInt
  exact mkFn_ok (fn := Tryd.f10) mix C_ok tab_s_l1In_ok Tryd.func10 (by kernel_rfl) (by kernel_rfl) (by kernel_rfl) (by kernel_rfl) (by decide)
noncomputable def tab_s_FormatInt : Tab := fun f => bif f == 10 then some Fs_FormatInt else tab_s_l1In f
theorem tab_s_FormatInt_ok : TabOk Tryd.prog tab_s_FormatInt := tab_cons tab_s_l1In_ok Fs_FormatInt_ok
noncomputable def Fs_l11Check : Am.Fn := mkFn C tab_s_FormatInt [0, 1, 2, 3, 5, 6] 23 (fun k => bif k == 1000003 then some 98 else none) ⟨fun _ _ => none, fun s => Nat.testBit 0 s, fun _ => []⟩ [(ty3, .ro), (ty9, .ro)] [(ty3, 0)] [.tmp 4] (Tryd.f11.body.getD .skip)
theorem Fs_l11Check_ok : FnOk Tryd.prog 11 Fs_l11Check := by
  unfold Fs_l11Check
  exact mkFn_ok (fn := Tryd.f11) mix C_ok tab_s_FormatInt_ok Tryd.func11 (by kernel_rfl) (by kernel_rfl) (by kernel_rfl) (by kernel_rfl) (by decide)
noncomputable def tab_s_l11Check : Tab := fun f => bif f == 11 then some Fs_l11Check else tab_s_FormatInt f
theorem tab_s_l11Check_ok : TabOk Tryd.prog tab_s_l11Check := tab_cons tab_s_FormatInt_ok Fs_l11Check_ok
noncomputable def Fs_EntryOf : Am.Fn := mkFn C tab_s_l11Check [0, 1, 2, 3] 24 (fun _ => none) ⟨fun _ _ => none, fun s => Nat.testBit 0 s, fun _ => []⟩ [(ty3, .ro), (ty9, .ro)] [(ty9, 0)] [.tmp 4] (Tryd.f5.body.getD .skip)
theorem Fs_EntryOf_ok : FnOk Tryd.prog 5 Fs_EntryOf := by
  unfold Fs_EntryOf
  exact mkFn_ok (fn := Tryd.f5) mix C_ok tab_s_l11Check_ok Tryd.func5 (by kernel_rfl) (by kernel_rfl) (by kernel_rfl) (by kernel_rfl) (by decide)
noncomputable def tab_s_EntryOf : Tab := fun f => bif f == 5 then some Fs_EntryOf else tab_s_l11Check f
theorem tab_s_EntryOf_ok : TabOk Tryd.prog tab_s_EntryOf := tab_cons tab_s_l11Check_ok Fs_EntryOf_ok
noncomputable def Fstrconv__Itoa : Am.Fn := ⟨[(.int .i64, .ro)], [(.str, 0)], itoaSem⟩
theorem Fstrconv__Itoa_ok : FnOk Tryd.prog 18 Fstrconv__Itoa := by
  have e : Tryd.itoaL_ren.f 171 = 18 := by kernel_rfl
  have h := itoa_ok Tryd.itoaL (fun _ _ h => h.1) (by rw [e]; exact ⟨_, Tryd.func18, by kernel_rfl, by kernel_rfl⟩)
  rw [e] at h
  exact h
noncomputable def tab_strconv__Itoa : Tab := fun f => bif f == 18 then some Fstrconv__Itoa else tab_s_EntryOf f
theorem tab_strconv__Itoa_ok : TabOk Tryd.prog tab_strconv__Itoa := tab_cons tab_s_EntryOf_ok Fstrconv__Itoa_ok
noncomputable def Fi_FormatInt : Am.Fn := mkFn C tab_strconv__Itoa [0, 1] 5 (fun _ => none) ⟨fun _ _ => none, fun s => Nat.testBit 0 s, fun _ => []⟩ [(ty3, .ro)] [(ty9, 0)] [.tmp 2] (Tryd.f12.body.getD .skip)
theorem Fi_FormatInt_ok : FnOk Tryd.prog 12 Fi_FormatInt := by
  unfold Fi_FormatInt
  exact mkFn_ok (fn := Tryd.f12) mix C_ok tab_strconv__Itoa_ok Tryd.func12 (by kernel_rfl) (by kernel_rfl) (by kernel_rfl) (by kernel_rfl) (by decide)
noncomputable def tab_i_FormatInt : Tab := fun f => bif f == 12 then some Fi_FormatInt else tab_strconv__Itoa f
theorem tab_i_FormatInt_ok : TabOk Tryd.prog tab_i_FormatInt := tab_cons tab_strconv__Itoa_ok Fi_FormatInt_ok
noncomputable def Fi_EntryOf : Am.Fn := mkFn C tab_i_FormatInt [0, 1, 2, 3, 5, 6] 42 (fun k => bif k == 1000005 then some 99 else none) ⟨fun _ _ => none, fun s => Nat.testBit 0 s, fun _ => []⟩ [(ty3, .ro), (ty9, .ro)] [(ty9, 0)] [.tmp 4] (Tryd.f6.body.getD .skip)
theorem Fi_EntryOf_ok : FnOk Tryd.prog 6 Fi_EntryOf := by
  unfold Fi_EntryOf
  exact mkFn_ok (fn := Tryd.f6) mix C_ok tab_i_FormatInt_ok Tryd.func6 (by kernel_rfl) (by kernel_rfl) (by kernel_rfl) (by kernel_rfl) (by decide)
noncomputable def tab_i_EntryOf : Tab := fun f => bif f == 6 then some Fi_EntryOf else tab_i_FormatInt f
theorem tab_i_EntryOf_ok : TabOk Tryd.prog tab_i_EntryOf := tab_cons tab_i_FormatInt_ok Fi_EntryOf_ok
noncomputable def Fw_FnExactEntryOf : Am.Fn := mkFn C tab_i_EntryOf [0, 1, 2, 3, 5, 6] 19 (fun _ => none) ⟨fun _ _ => none, fun s => Nat.testBit 0 s, fun _ => []⟩ [(ty3, .ro), (ty9, .ro)] [(ty4, 0)] [.tmp 4] (Tryd.f3.body.getD .skip)
theorem Fw_FnExactEntryOf_ok : FnOk Tryd.prog 3 Fw_FnExactEntryOf := by
  unfold Fw_FnExactEntryOf
  exact mkFn_ok (fn := Tryd.f3) mix C_ok tab_i_EntryOf_ok Tryd.func3 (by kernel_rfl) (by kernel_rfl) (by kernel_rfl) (by kernel_rfl) (by decide)
noncomputable def tab_w_FnExactEntryOf : Tab := fun f => bif f == 3 then some Fw_FnExactEntryOf else tab_i_EntryOf f
theorem tab_w_FnExactEntryOf_ok : TabOk Tryd.prog tab_w_FnExactEntryOf := tab_cons tab_i_EntryOf_ok Fw_FnExactEntryOf_ok
end Go.Proofs.YtamkkancfmbanaaDoor.P.It
