/- A part of the proof: It2e. No conditions. -/
import Derived.Test.YtjccadhifgkdbaaPG6
import Derived.Test.YtjccadhifgkdbaaChecked
import Derived.KernelRfl
set_option linter.unusedVariables false
set_option maxRecDepth 100000
namespace Go.Proofs.Ytjccadhifgkdbaa.P.It
open Am
abbrev ty1 : Ty := (.raw 1)
abbrev ty2 : Ty := (.int .i64)
abbrev ty3 : Ty := (.int .i64)
abbrev ty4 : Ty := .bool
abbrev ty5 : Ty := (.int .u8)
abbrev ty9 : Ty := .str
abbrev ty12 : Ty := (.int .u64)
abbrev ty20 : Ty := (.raw 2)
abbrev ty21 : Ty := (.int .i32)
abbrev ty22 : Ty := (.slice 9 ty9)
abbrev ty23 : Ty := (.slice 3 ty3)
abbrev ty24 : Ty := (.raw 1)
abbrev ty30 : Ty := (.raw 1)
abbrev ty31 : Ty := (.raw 1)
abbrev ty32 : Ty := (.raw 1)
abbrev ty33 : Ty := (.raw 1)
abbrev ty34 : Ty := (.raw 1)
abbrev ty35 : Ty := (.raw 1)
abbrev ty36 : Ty := (.raw 1)
abbrev ty37 : Ty := (.raw 1)
abbrev ty38 : Ty := (.raw 1)
abbrev ty41 : Ty := (.raw 1)
abbrev ty42 : Ty := (.raw 1)
abbrev ty43 : Ty := (.raw 1)
abbrev ty45 : Ty := (.raw 1)
abbrev ty47 : Ty := (.raw 1)
abbrev ty48 : Ty := (.raw 1)
abbrev ty49 : Ty := (.raw 1)
abbrev ty50 : Ty := (.raw 1)
abbrev ty55 : Ty := (.raw 1)
abbrev ty56 : Ty := (.raw 1)
abbrev ty57 : Ty := (.raw 1)
abbrev ty58 : Ty := (.raw 1)
abbrev ty62 : Ty := (.raw 1)
abbrev ty63 : Ty := (.raw 1)
abbrev ty67 : Ty := (.raw 1)
abbrev ty68 : Ty := (.raw 1)
abbrev ty69 : Ty := (.raw 1)
abbrev ty73 : Ty := (.raw 1)
abbrev ty74 : Ty := (.raw 1)
abbrev ty75 : Ty := (.raw 1)
abbrev ty76 : Ty := (.raw 1)
abbrev ty77 : Ty := (.raw 1)
abbrev ty78 : Ty := (.raw 1)
abbrev ty79 : Ty := (.raw 1)
abbrev ty83 : Ty := (.raw 1)
abbrev ty84 : Ty := (.agg (.pair ty23 (.pair ty3 ty4)))
abbrev ty85 : Ty := (.agg (.pair ty23 (.pair ty3 ty4)))
abbrev ty86 : Ty := (.agg (.pair ty3 (.pair ty85 (.pair ty9 (.pair ty9 (.pair ty23 (.pair ty3 (.pair ty3 ty3))))))))
abbrev ty87 : Ty := (.agg (.pair ty3 (.pair ty85 (.pair ty9 (.pair ty9 (.pair ty23 (.pair ty3 (.pair ty3 ty3))))))))
abbrev ty88 : Ty := (.agg (.pair ty23 (.pair ty3 ty4)))
abbrev ty89 : Ty := (.agg (.pair ty3 (.pair ty88 (.pair ty9 (.pair ty9 (.pair ty23 (.pair ty3 (.pair ty3 ty3))))))))
abbrev ty90 : Ty := (.agg (.pair ty3 (.pair ty88 (.pair ty9 (.pair ty9 (.pair ty23 (.pair ty3 (.pair ty3 ty3))))))))
abbrev ty91 : Ty := (.raw 1)
abbrev ty92 : Ty := (.raw 1)
abbrev ty93 : Ty := (.raw 1)
abbrev ty94 : Ty := (.raw 1)
abbrev ty96 : Ty := (.raw 1)
abbrev ty97 : Ty := (.raw 1)
abbrev ty98 : Ty := (.raw 1)
abbrev ty99 : Ty := (.raw 1)
abbrev ty100 : Ty := (.raw 1)
abbrev ty101 : Ty := (.raw 1)
abbrev ty102 : Ty := (.slice 88 ty88)
abbrev ty103 : Ty := (.agg (.pair ty3 ty102))
abbrev ty104 : Ty := (.agg (.pair ty3 ty102))
abbrev ty105 : Ty := (.slice 23 ty23)
abbrev ty106 : Ty := (.agg (.pair ty104 ty105))
abbrev ty107 : Ty := (.agg (.pair ty104 ty105))
abbrev ty108 : Ty := (.raw 1)
abbrev ty109 : Ty := (.raw 1)
abbrev ty110 : Ty := (.raw 1)
abbrev ty111 : Ty := (.raw 1)
abbrev ty112 : Ty := (.raw 1)
abbrev ty113 : Ty := (.raw 1)
abbrev ty114 : Ty := (.raw 1)
abbrev ty115 : Ty := (.slice 5 ty5)
abbrev ty116 : Ty := (.raw 1)
abbrev ty117 : Ty := (.raw 1)
abbrev ty118 : Ty := (.raw 1)
abbrev ty119 : Ty := (.raw 1)
abbrev ty120 : Ty := (.raw 1)
abbrev ty121 : Ty := (.raw 1)
abbrev ty122 : Ty := (.raw 1)
abbrev ty123 : Ty := (.raw 1)
abbrev ty124 : Ty := (.raw 1)
abbrev ty125 : Ty := (.raw 1)
abbrev ty127 : Ty := (.slice 4 ty4)
abbrev ty128 : Ty := (.agg (.pair .unit (.pair ty4 (.pair ty4 (.pair ty4 ty4)))))
abbrev ty129 : Ty := (.raw 1)
abbrev ty130 : Ty := (.raw 1)
abbrev ty131 : Ty := (.agg (.pair ty3 (.pair ty9 (.pair ty9 (.pair ty104 ty23)))))
abbrev ty132 : Ty := (.agg (.pair ty3 (.pair ty9 (.pair ty9 (.pair ty104 ty23)))))
abbrev ty133 : Ty := (.raw 1)
abbrev ty134 : Ty := (.raw 1)
abbrev ty135 : Ty := (.raw 1)
abbrev ty136 : Ty := (.slice 85 ty85)
abbrev ty137 : Ty := (.agg (.pair ty3 ty136))
abbrev ty138 : Ty := (.agg (.pair ty3 ty136))
abbrev ty139 : Ty := (.agg (.pair ty138 ty105))
abbrev ty140 : Ty := (.agg (.pair ty138 ty105))
abbrev ty141 : Ty := (.raw 1)
abbrev ty142 : Ty := (.raw 1)
abbrev ty143 : Ty := (.raw 1)
abbrev ty144 : Ty := (.raw 1)
abbrev ty145 : Ty := (.agg (.pair ty9 ty104))
abbrev ty146 : Ty := (.agg (.pair ty9 ty104))
abbrev ty147 : Ty := (.raw 1)
abbrev ty148 : Ty := (.raw 1)
abbrev ty149 : Ty := (.raw 1)
abbrev ty150 : Ty := (.agg (.pair ty9 ty138))
abbrev ty151 : Ty := (.agg (.pair ty9 ty138))
abbrev ty152 : Ty := (.raw 1)
abbrev ty153 : Ty := (.raw 1)
abbrev ty154 : Ty := (.raw 1)
abbrev ty155 : Ty := (.raw 1)
abbrev ty156 : Ty := (.raw 1)
abbrev ty157 : Ty := (.raw 1)
abbrev ty158 : Ty := (.raw 1)
abbrev ty159 : Ty := (.raw 1)
abbrev ty160 : Ty := (.raw 1)
abbrev ty161 : Ty := (.raw 1)
abbrev ty162 : Ty := (.raw 1)
abbrev ty163 : Ty := (.raw 1)
abbrev ty164 : Ty := (.raw 1)
abbrev ty165 : Ty := (.raw 1)
abbrev ty166 : Ty := (.raw 1)
abbrev ty172 : Ty := (.raw 1)
abbrev ty173 : Ty := (.int .u32)
abbrev ty176 : Ty := (.raw 1)
abbrev ty177 : Ty := (.raw 0)
abbrev ty182 : Ty := (.raw 1)
abbrev ty40 : Ty := (.slice 87 ty87)
abbrev ty46 : Ty := (.slice 90 ty90)
abbrev ty51 : Ty := (.slice 132 ty132)
abbrev ty59 : Ty := (.slice 140 ty140)
abbrev ty60 : Ty := (.agg (.pair ty40 ty59))
abbrev ty61 : Ty := (.agg (.pair ty40 ty59))
abbrev ty64 : Ty := (.slice 107 ty107)
abbrev ty65 : Ty := (.agg (.pair ty46 ty64))
abbrev ty66 : Ty := (.agg (.pair ty46 ty64))
abbrev ty70 : Ty := (.slice 146 ty146)
abbrev ty71 : Ty := (.agg (.pair ty9 (.pair ty3 ty70)))
abbrev ty72 : Ty := (.agg (.pair ty9 (.pair ty3 ty70)))
abbrev ty80 : Ty := (.slice 151 ty151)
abbrev ty81 : Ty := (.agg (.pair ty9 (.pair ty3 ty80)))
abbrev ty82 : Ty := (.agg (.pair ty9 (.pair ty3 ty80)))
abbrev ty126 : Ty := (.slice 127 ty127)
abbrev ty25 : Ty := (.slice 46 ty46)
abbrev ty39 : Ty := (.slice 82 ty82)
abbrev ty44 : Ty := (.slice 72 ty72)
abbrev ty52 : Ty := (.slice 66 ty66)
abbrev ty26 : Ty := (.slice 44 ty44)
abbrev ty27 : Ty := (.agg (.pair ty25 ty26))
abbrev ty28 : Ty := (.agg (.pair ty25 ty26))
abbrev ty53 : Ty := (.agg (.pair ty28 (.pair ty4 (.pair ty51 (.pair ty22 ty52)))))
abbrev ty54 : Ty := (.agg (.pair ty28 (.pair ty4 (.pair ty51 (.pair ty22 ty52)))))
def tys : Tys := [(1, ty1, 8), (2, ty2, 8), (3, ty3, 8), (4, ty4, 1), (5, ty5, 1), (9, ty9, 16), (12, ty12, 8), (20, ty20, 16), (21, ty21, 4), (22, ty22, 24), (23, ty23, 24), (24, ty24, 8), (30, ty30, 8), (31, ty31, 8), (32, ty32, 8), (33, ty33, 8), (34, ty34, 8), (35, ty35, 8), (36, ty36, 8), (37, ty37, 8), (38, ty38, 8), (41, ty41, 8), (42, ty42, 8), (43, ty43, 8), (45, ty45, 8), (47, ty47, 8), (48, ty48, 8), (49, ty49, 8), (50, ty50, 8), (55, ty55, 8), (56, ty56, 8), (57, ty57, 8), (58, ty58, 8), (62, ty62, 8), (63, ty63, 8), (67, ty67, 8), (68, ty68, 8), (69, ty69, 8), (73, ty73, 8), (74, ty74, 8), (75, ty75, 8), (76, ty76, 8), (77, ty77, 8), (78, ty78, 8), (79, ty79, 8), (83, ty83, 8), (84, ty84, 40), (85, ty85, 40), (86, ty86, 128), (87, ty87, 128), (88, ty88, 40), (89, ty89, 128), (90, ty90, 128), (91, ty91, 8), (92, ty92, 8), (93, ty93, 8), (94, ty94, 8), (96, ty96, 8), (97, ty97, 8), (98, ty98, 8), (99, ty99, 8), (100, ty100, 8), (101, ty101, 8), (102, ty102, 24), (103, ty103, 32), (104, ty104, 32), (105, ty105, 24), (106, ty106, 56), (107, ty107, 56), (108, ty108, 8), (109, ty109, 8), (110, ty110, 8), (111, ty111, 8), (112, ty112, 8), (113, ty113, 8), (114, ty114, 8), (115, ty115, 24), (116, ty116, 8), (117, ty117, 8), (118, ty118, 8), (119, ty119, 8), (120, ty120, 8), (121, ty121, 8), (122, ty122, 8), (123, ty123, 8), (124, ty124, 8), (125, ty125, 8), (127, ty127, 24), (128, ty128, 4), (129, ty129, 8), (130, ty130, 8), (131, ty131, 96), (132, ty132, 96), (133, ty133, 8), (134, ty134, 8), (135, ty135, 8), (136, ty136, 24), (137, ty137, 32), (138, ty138, 32), (139, ty139, 56), (140, ty140, 56), (141, ty141, 8), (142, ty142, 8), (143, ty143, 8), (144, ty144, 8), (145, ty145, 48), (146, ty146, 48), (147, ty147, 8), (148, ty148, 8), (149, ty149, 8), (150, ty150, 48), (151, ty151, 48), (152, ty152, 8), (153, ty153, 8), (154, ty154, 8), (155, ty155, 8), (156, ty156, 8), (157, ty157, 8), (158, ty158, 8), (159, ty159, 8), (160, ty160, 8), (161, ty161, 8), (162, ty162, 8), (163, ty163, 8), (164, ty164, 8), (165, ty165, 8), (166, ty166, 8), (172, ty172, 8), (173, ty173, 4), (176, ty176, 8), (177, ty177, 8), (182, ty182, 8), (40, ty40, 24), (46, ty46, 24), (51, ty51, 24), (59, ty59, 24), (60, ty60, 48), (61, ty61, 48), (64, ty64, 24), (65, ty65, 48), (66, ty66, 48), (70, ty70, 24), (71, ty71, 48), (72, ty72, 48), (80, ty80, 24), (81, ty81, 48), (82, ty82, 48), (126, ty126, 24), (25, ty25, 24), (39, ty39, 24), (44, ty44, 24), (52, ty52, 24), (26, ty26, 24), (27, ty27, 48), (28, ty28, 48), (53, ty53, 128), (54, ty54, 128)]
noncomputable abbrev C : Ctx := mkCtx tys
theorem mix : Try.prog.follows .mixedOrders = true := by kernel_rfl
theorem C_ok : CtxOk Try.prog C := ctx_ok (by kernel_rfl)
def tab0 : Tab := fun _ => none
theorem tab0_ok : TabOk Try.prog tab0 := fun _ _ h => by cases h
theorem tab_cons {tab : Tab} {f : FuncId} {F : Am.Fn} (h : TabOk Try.prog tab) (hF : FnOk Try.prog f F) : TabOk Try.prog (fun g => bif g == f then some F else tab g) := by
  intro g G hg
  dsimp only at hg
  cases hc : g == f with
  | true =>
    rw [hc] at hg
    simp only [cond_true, Option.some.injEq] at hg
    rw [beq_iff_eq] at hc
    subst hc hg
    exact hF
  | false =>
    rw [hc] at hg
    exact h g G hg
def fuel : Nat := 2000
theorem fuel_eq : fuel = 1999 + 1 := rfl
abbrev Rat := Int × Int
abbrev Atm := List Int × Int × Bool
abbrev Cel := Int × List Atm
abbrev Reg := Int × List Cel
abbrev Rw := ByteArray × Cel
abbrev Rel := ByteArray × Int × List Rw
abbrev Nod := Int × Atm × ByteArray × ByteArray × List Int × Int × Int × Int
abbrev Sup := Cel × List (List Int)
abbrev Viw := List Nod × List Sup
abbrev Opn := Int × ByteArray × ByteArray × Cel × List Int
abbrev Sto := List (List Nod) × List (List Rel)
noncomputable def Fs_NewHouse : Am.Fn := mkFn C tab0 [0] 5 (fun k => bif k == 1 then some 1 else none) ⟨fun _ _ => none, fun s => Nat.testBit 1 s, fun r => bif r == 0 then [] else []⟩ [] [(ty54, 5)] [.cell 0 54] (Try.f30.body.getD .skip)
theorem Fs_NewHouse_ok : FnOk Try.prog 30 Fs_NewHouse := by
  unfold Fs_NewHouse
  exact mkFn_ok (fn := Try.f30) mix C_ok tab0_ok Try.func30 (by kernel_rfl) (by kernel_rfl) (by kernel_rfl) (by kernel_rfl) (by decide)
noncomputable def tab_s_NewHouse : Tab := fun f => bif f == 30 then some Fs_NewHouse else tab0 f
theorem tab_s_NewHouse_ok : TabOk Try.prog tab_s_NewHouse := tab_cons tab0_ok Fs_NewHouse_ok
noncomputable def Fi_isWord : Am.Fn := mkFn C tab_s_NewHouse [0, 1, 2, 3, 4, 5, 7] 34 (fun k => bif k == 1000004 then some 135 else none) ⟨fun _ _ => none, fun s => Nat.testBit 0 s, fun _ => []⟩ [(ty9, .ro), (ty5, .ro), (ty5, .ro)] [(ty4, 0)] [.tmp 6] (Try.f127.body.getD .skip)
theorem Fi_isWord_ok : FnOk Try.prog 127 Fi_isWord := by
  unfold Fi_isWord
  exact mkFn_ok (fn := Try.f127) mix C_ok tab_s_NewHouse_ok Try.func127 (by kernel_rfl) (by kernel_rfl) (by kernel_rfl) (by kernel_rfl) (by decide)
noncomputable def tab_i_isWord : Tab := fun f => bif f == 127 then some Fi_isWord else tab_s_NewHouse f
theorem tab_i_isWord_ok : TabOk Try.prog tab_i_isWord := tab_cons tab_s_NewHouse_ok Fi_isWord_ok
noncomputable def Fi_isName : Am.Fn := mkFn C tab_i_isWord [0, 1] 5 (fun _ => none) ⟨fun _ _ => none, fun s => Nat.testBit 0 s, fun _ => []⟩ [(ty9, .ro)] [(ty4, 0)] [.tmp 2] (Try.f104.body.getD .skip)
theorem Fi_isName_ok : FnOk Try.prog 104 Fi_isName := by
  unfold Fi_isName
  exact mkFn_ok (fn := Try.f104) mix C_ok tab_i_isWord_ok Try.func104 (by kernel_rfl) (by kernel_rfl) (by kernel_rfl) (by kernel_rfl) (by decide)
noncomputable def tab_i_isName : Tab := fun f => bif f == 104 then some Fi_isName else tab_i_isWord f
theorem tab_i_isName_ok : TabOk Try.prog tab_i_isName := tab_cons tab_i_isWord_ok Fi_isName_ok
noncomputable def Fi_isLabel : Am.Fn := mkFn C tab_i_isName [0, 1] 5 (fun _ => none) ⟨fun _ _ => none, fun s => Nat.testBit 0 s, fun _ => []⟩ [(ty9, .ro)] [(ty4, 0)] [.tmp 2] (Try.f105.body.getD .skip)
theorem Fi_isLabel_ok : FnOk Try.prog 105 Fi_isLabel := by
  unfold Fi_isLabel
  exact mkFn_ok (fn := Try.f105) mix C_ok tab_i_isName_ok Try.func105 (by kernel_rfl) (by kernel_rfl) (by kernel_rfl) (by kernel_rfl) (by decide)
noncomputable def tab_i_isLabel : Tab := fun f => bif f == 105 then some Fi_isLabel else tab_i_isName f
theorem tab_i_isLabel_ok : TabOk Try.prog tab_i_isLabel := tab_cons tab_i_isName_ok Fi_isLabel_ok
noncomputable def Fi_IsNumber : Am.Fn := mkFn C tab_i_isLabel [0, 1] 9 (fun _ => none) ⟨fun _ _ => none, fun s => Nat.testBit 0 s, fun _ => []⟩ [(ty3, .ro)] [(ty4, 0)] [.tmp 2] (Try.f123.body.getD .skip)
theorem Fi_IsNumber_ok : FnOk Try.prog 123 Fi_IsNumber := by
  unfold Fi_IsNumber
  exact mkFn_ok (fn := Try.f123) mix C_ok tab_i_isLabel_ok Try.func123 (by kernel_rfl) (by kernel_rfl) (by kernel_rfl) (by kernel_rfl) (by decide)
noncomputable def tab_i_IsNumber : Tab := fun f => bif f == 123 then some Fi_IsNumber else tab_i_isLabel f
theorem tab_i_IsNumber_ok : TabOk Try.prog tab_i_IsNumber := tab_cons tab_i_isLabel_ok Fi_IsNumber_ok
noncomputable def Fi_absolute : Am.Fn := mkFn C tab_i_IsNumber [0, 1] 8 (fun _ => none) ⟨fun _ _ => none, fun s => Nat.testBit 0 s, fun _ => []⟩ [(ty3, .ro)] [(ty3, 0)] [.tmp 2] (Try.f132.body.getD .skip)
theorem Fi_absolute_ok : FnOk Try.prog 132 Fi_absolute := by
  unfold Fi_absolute
  exact mkFn_ok (fn := Try.f132) mix C_ok tab_i_IsNumber_ok Try.func132 (by kernel_rfl) (by kernel_rfl) (by kernel_rfl) (by kernel_rfl) (by decide)
noncomputable def tab_i_absolute : Tab := fun f => bif f == 132 then some Fi_absolute else tab_i_IsNumber f
theorem tab_i_absolute_ok : TabOk Try.prog tab_i_absolute := tab_cons tab_i_IsNumber_ok Fi_absolute_ok
noncomputable def Fi_commonDivisor : Am.Fn := mkFn C tab_i_absolute [0, 1, 2, 3] 16 (fun k => bif k == 1000002 then some 3 else none) ⟨fun _ _ => none, fun s => Nat.testBit 0 s, fun _ => []⟩ [(ty3, .ro), (ty3, .ro)] [(ty3, 0)] [.tmp 4] (Try.f124.body.getD .skip)
theorem Fi_commonDivisor_ok : FnOk Try.prog 124 Fi_commonDivisor := by
  unfold Fi_commonDivisor
  exact mkFn_ok (fn := Try.f124) mix C_ok tab_i_absolute_ok Try.func124 (by kernel_rfl) (by kernel_rfl) (by kernel_rfl) (by kernel_rfl) (by decide)
noncomputable def tab_i_commonDivisor : Tab := fun f => bif f == 124 then some Fi_commonDivisor else tab_i_absolute f
theorem tab_i_commonDivisor_ok : TabOk Try.prog tab_i_commonDivisor := tab_cons tab_i_absolute_ok Fi_commonDivisor_ok
noncomputable def Fi_divisorOf : Am.Fn := mkFn C tab_i_commonDivisor [0, 1, 3, 4, 5, 6, 10] 17 (fun k => bif k == 1000003 then some 457 else none) ⟨fun _ _ => none, fun s => Nat.testBit 0 s, fun _ => []⟩ [(ty23, .ro)] [(ty3, 0)] [.tmp 2] (Try.f125.body.getD .skip)
theorem Fi_divisorOf_ok : FnOk Try.prog 125 Fi_divisorOf := by
  unfold Fi_divisorOf
  exact mkFn_ok (fn := Try.f125) mix C_ok tab_i_commonDivisor_ok Try.func125 (by kernel_rfl) (by kernel_rfl) (by kernel_rfl) (by kernel_rfl) (by decide)
noncomputable def tab_i_divisorOf : Tab := fun f => bif f == 125 then some Fi_divisorOf else tab_i_commonDivisor f
theorem tab_i_divisorOf_ok : TabOk Try.prog tab_i_divisorOf := tab_cons tab_i_commonDivisor_ok Fi_divisorOf_ok
noncomputable def Fi_IsAtom : Am.Fn := mkFn C tab_i_divisorOf [0, 1, 3, 4, 5, 10, 15, 16, 20, 26, 29] 33 (fun k => bif k == 1 then some 6 else bif k == 3 then some 6 else bif k == 1000004 then some 491522 else none) ⟨fun _ _ => none, fun s => Nat.testBit 2 s, fun r => bif r == 1 then [6, 16, 20, 27] else []⟩ [(ty88, .ro)] [(ty4, 0)] [.tmp 2] (Try.f101.body.getD .skip)
theorem Fi_IsAtom_ok : FnOk Try.prog 101 Fi_IsAtom := by
  unfold Fi_IsAtom
  exact mkFn_ok (fn := Try.f101) mix C_ok tab_i_divisorOf_ok Try.func101 (by kernel_rfl) (by kernel_rfl) (by kernel_rfl) (by kernel_rfl) (by decide)
noncomputable def tab_i_IsAtom : Tab := fun f => bif f == 101 then some Fi_IsAtom else tab_i_divisorOf f
theorem tab_i_IsAtom_ok : TabOk Try.prog tab_i_IsAtom := tab_cons tab_i_divisorOf_ok Fi_IsAtom_ok
noncomputable def Fi_IsCell : Am.Fn := mkFn C tab_i_IsAtom [0, 1, 3, 4, 5, 9, 14, 19, 20, 24, 30, 33] 38 (fun k => bif k == 1 then some 6 else bif k == 3 then some 6 else bif k == 5 then some 7864326 else bif k == 6 then some 7864342 else bif k == 1000004 then some 7864322 else none) ⟨fun _ _ => none, fun s => Nat.testBit 18 s, fun r => bif r == 1 then [15, 20, 24, 25] else bif r == 4 then [26, 31] else []⟩ [(ty104, .ro)] [(ty4, 0)] [.tmp 2] (Try.f70.body.getD .skip)
theorem Fi_IsCell_ok : FnOk Try.prog 70 Fi_IsCell := by
  unfold Fi_IsCell
  exact mkFn_ok (fn := Try.f70) mix C_ok tab_i_IsAtom_ok Try.func70 (by kernel_rfl) (by kernel_rfl) (by kernel_rfl) (by kernel_rfl) (by decide)
noncomputable def tab_i_IsCell : Tab := fun f => bif f == 70 then some Fi_IsCell else tab_i_IsAtom f
theorem tab_i_IsCell_ok : TabOk Try.prog tab_i_IsCell := tab_cons tab_i_IsAtom_ok Fi_IsCell_ok
noncomputable def Fi_IsRelation : Am.Fn := mkFn C tab_i_IsCell [0, 1, 3, 4, 5, 10, 15, 20, 25, 26, 30, 32, 37, 43, 44, 46] 51 (fun k => bif k == 1 then some 6 else bif k == 3 then some 6 else bif k == 5 then some 503316486 else bif k == 1000004 then some 503316482 else none) ⟨fun _ _ => none, fun s => Nat.testBit 18 s, fun r => bif r == 1 then [21, 26, 30, 31] else bif r == 4 then [38] else []⟩ [(ty72, .ro)] [(ty4, 0)] [.tmp 2] (Try.f75.body.getD .skip)
theorem Fi_IsRelation_ok : FnOk Try.prog 75 Fi_IsRelation := by
  unfold Fi_IsRelation
  exact mkFn_ok (fn := Try.f75) mix C_ok tab_i_IsCell_ok Try.func75 (by kernel_rfl) (by kernel_rfl) (by kernel_rfl) (by kernel_rfl) (by decide)
noncomputable def tab_i_IsRelation : Tab := fun f => bif f == 75 then some Fi_IsRelation else tab_i_IsCell f
theorem tab_i_IsRelation_ok : TabOk Try.prog tab_i_IsRelation := tab_cons tab_i_IsCell_ok Fi_IsRelation_ok
noncomputable def Fi_FindRelation : Am.Fn := mkFn C tab_i_IsRelation [0, 1, 2, 3, 5, 6, 7, 12, 14] 20 (fun k => bif k == 1 then some 19 else bif k == 3 then some 915 else bif k == 1000002 then some 899 else none) ⟨fun _ _ => none, fun s => Nat.testBit 64 s, fun r => bif r == 6 then [] else []⟩ [(ty44, .ro), (ty9, .ro)] [(ty3, 0)] [.tmp 4] (Try.f76.body.getD .skip)
theorem Fi_FindRelation_ok : FnOk Try.prog 76 Fi_FindRelation := by
  unfold Fi_FindRelation
  exact mkFn_ok (fn := Try.f76) mix C_ok tab_i_IsRelation_ok Try.func76 (by kernel_rfl) (by kernel_rfl) (by kernel_rfl) (by kernel_rfl) (by decide)
noncomputable def tab_i_FindRelation : Tab := fun f => bif f == 76 then some Fi_FindRelation else tab_i_IsRelation f
theorem tab_i_FindRelation_ok : TabOk Try.prog tab_i_FindRelation := tab_cons tab_i_IsRelation_ok Fi_FindRelation_ok
noncomputable def Fi_IsDatabase : Am.Fn := mkFn C tab_i_FindRelation [0, 1, 3, 4, 8, 13, 20] 27 (fun k => bif k == 1 then some 5 else bif k == 3 then some 5 else bif k == 5 then some 1797 else bif k == 1000004 then some 1793 else none) ⟨fun _ _ => none, fun s => Nat.testBit 16 s, fun r => bif r == 4 then [15] else []⟩ [(ty44, .ro)] [(ty4, 0)] [.tmp 2] (Try.f41.body.getD .skip)
theorem Fi_IsDatabase_ok : FnOk Try.prog 41 Fi_IsDatabase := by
  unfold Fi_IsDatabase
  exact mkFn_ok (fn := Try.f41) mix C_ok tab_i_FindRelation_ok Try.func41 (by kernel_rfl) (by kernel_rfl) (by kernel_rfl) (by kernel_rfl) (by decide)
noncomputable def tab_i_IsDatabase : Tab := fun f => bif f == 41 then some Fi_IsDatabase else tab_i_FindRelation f
theorem tab_i_IsDatabase_ok : TabOk Try.prog tab_i_IsDatabase := tab_cons tab_i_FindRelation_ok Fi_IsDatabase_ok
noncomputable def Fi_NewStore : Am.Fn := mkFn C tab_i_IsDatabase [0, 1, 2, 3, 4, 6, 7, 8, 16, 21, 25, 27] 41 (fun k => bif k == 1 then some 51 else bif k == 2 then some 48 else bif k == 3 then some 51 else bif k == 4 then some 115 else bif k == 7 then some 459251 else bif k == 10 then some 48 else bif k == 11 then some 112 else bif k == 1000005 then some 458835 else none) ⟨fun _ _ => none, fun s => Nat.testBit 16 s, fun r => bif r == 4 then [] else []⟩ [(ty22, .ro), (ty23, .ro)] [(ty28, 5), (ty4, 0)] [.cell 4 28, .tmp 5] (Try.f12.body.getD .skip)
theorem Fi_NewStore_ok : FnOk Try.prog 12 Fi_NewStore := by
  unfold Fi_NewStore
  exact mkFn_ok (fn := Try.f12) mix C_ok tab_i_IsDatabase_ok Try.func12 (by kernel_rfl) (by kernel_rfl) (by kernel_rfl) (by kernel_rfl) (by decide)
noncomputable def tab_i_NewStore : Tab := fun f => bif f == 12 then some Fi_NewStore else tab_i_IsDatabase f
theorem tab_i_NewStore_ok : TabOk Try.prog tab_i_NewStore := tab_cons tab_i_IsDatabase_ok Fi_NewStore_ok
noncomputable def Fi_NewHouse : Am.Fn := mkFn C tab_i_NewStore [0, 1, 2, 3] 9 (fun k => bif k == 1 then some 1 else bif k == 2 then some 3 else none) ⟨fun d i => bif d == 3 then (bif i == 0 then some 5 else bif i == 1 then some 6 else none) else none, fun s => Nat.testBit 3 s, fun r => bif r == 0 then [] else bif r == 1 then [7] else []⟩ [] [(ty54, 5)] [.cell 0 54] (Try.f31.body.getD .skip)
theorem Fi_NewHouse_ok : FnOk Try.prog 31 Fi_NewHouse := by
  unfold Fi_NewHouse
  exact mkFn_ok (fn := Try.f31) mix C_ok tab_i_NewStore_ok Try.func31 (by kernel_rfl) (by kernel_rfl) (by kernel_rfl) (by kernel_rfl) (by decide)
noncomputable def tab_i_NewHouse : Tab := fun f => bif f == 31 then some Fi_NewHouse else tab_i_NewStore f
theorem tab_i_NewHouse_ok : TabOk Try.prog tab_i_NewHouse := tab_cons tab_i_NewStore_ok Fi_NewHouse_ok
noncomputable def Fw_eqIntS : Am.Fn := mkFn C tab_i_NewHouse [0, 1, 2, 3, 5, 17, 19, 21, 23] 26 (fun k => bif k == 1000004 then some 35 else none) ⟨fun _ _ => none, fun s => Nat.testBit 0 s, fun _ => []⟩ [(ty23, .ro), (ty23, .ro)] [(ty4, 0)] [.tmp 4] (Try.f15.body.getD .skip)
theorem Fw_eqIntS_ok : FnOk Try.prog 15 Fw_eqIntS := by
  unfold Fw_eqIntS
  exact mkFn_ok (fn := Try.f15) mix C_ok tab_i_NewHouse_ok Try.func15 (by kernel_rfl) (by kernel_rfl) (by kernel_rfl) (by kernel_rfl) (by decide)
noncomputable def tab_w_eqIntS : Tab := fun f => bif f == 15 then some Fw_eqIntS else tab_i_NewHouse f
theorem tab_w_eqIntS_ok : TabOk Try.prog tab_w_eqIntS := tab_cons tab_i_NewHouse_ok Fw_eqIntS_ok
noncomputable def Fw_eqAtom : Am.Fn := mkFn C tab_w_eqIntS [0, 1, 2, 3, 5, 7, 11, 13, 16, 18] 21 (fun _ => none) ⟨fun _ _ => none, fun s => Nat.testBit 12 s, fun r => bif r == 2 then [6] else bif r == 3 then [8] else []⟩ [(ty88, .ro), (ty88, .ro)] [(ty4, 0)] [.tmp 4] (Try.f90.body.getD .skip)
theorem Fw_eqAtom_ok : FnOk Try.prog 90 Fw_eqAtom := by
  unfold Fw_eqAtom
  exact mkFn_ok (fn := Try.f90) mix C_ok tab_w_eqIntS_ok Try.func90 (by kernel_rfl) (by kernel_rfl) (by kernel_rfl) (by kernel_rfl) (by decide)
noncomputable def tab_w_eqAtom : Tab := fun f => bif f == 90 then some Fw_eqAtom else tab_w_eqIntS f
theorem tab_w_eqAtom_ok : TabOk Try.prog tab_w_eqAtom := tab_cons tab_w_eqIntS_ok Fw_eqAtom_ok
noncomputable def Fw_eqNode : Am.Fn := mkFn C tab_w_eqAtom [0, 1, 2, 3, 5, 7, 10, 12, 16, 18, 21, 23, 26, 28, 32, 34, 37, 39, 42, 44] 47 (fun _ => none) ⟨fun _ _ => none, fun s => Nat.testBit 12 s, fun r => bif r == 2 then [11, 27] else bif r == 3 then [13, 29] else []⟩ [(ty90, .ro), (ty90, .ro)] [(ty4, 0)] [.tmp 4] (Try.f56.body.getD .skip)
theorem Fw_eqNode_ok : FnOk Try.prog 56 Fw_eqNode := by
  unfold Fw_eqNode
  exact mkFn_ok (fn := Try.f56) mix C_ok tab_w_eqAtom_ok Try.func56 (by kernel_rfl) (by kernel_rfl) (by kernel_rfl) (by kernel_rfl) (by decide)
noncomputable def tab_w_eqNode : Tab := fun f => bif f == 56 then some Fw_eqNode else tab_w_eqAtom f
theorem tab_w_eqNode_ok : TabOk Try.prog tab_w_eqNode := tab_cons tab_w_eqAtom_ok Fw_eqNode_ok
noncomputable def Fw_eqNodeS : Am.Fn := mkFn C tab_w_eqNode [0, 1, 2, 3, 5, 17, 19, 21, 23] 27 (fun k => bif k == 1000004 then some 35 else none) ⟨fun _ _ => none, fun s => Nat.testBit 0 s, fun _ => []⟩ [(ty46, .ro), (ty46, .ro)] [(ty4, 0)] [.tmp 4] (Try.f27.body.getD .skip)
theorem Fw_eqNodeS_ok : FnOk Try.prog 27 Fw_eqNodeS := by
  unfold Fw_eqNodeS
  exact mkFn_ok (fn := Try.f27) mix C_ok tab_w_eqNode_ok Try.func27 (by kernel_rfl) (by kernel_rfl) (by kernel_rfl) (by kernel_rfl) (by decide)
noncomputable def tab_w_eqNodeS : Tab := fun f => bif f == 27 then some Fw_eqNodeS else tab_w_eqNode f
theorem tab_w_eqNodeS_ok : TabOk Try.prog tab_w_eqNodeS := tab_cons tab_w_eqNode_ok Fw_eqNodeS_ok
noncomputable def Fw_eqNodeSS : Am.Fn := mkFn C tab_w_eqNodeS [0, 1, 2, 3, 5, 17, 19, 21, 23] 27 (fun k => bif k == 1000004 then some 35 else none) ⟨fun _ _ => none, fun s => Nat.testBit 0 s, fun _ => []⟩ [(ty25, .ro), (ty25, .ro)] [(ty4, 0)] [.tmp 4] (Try.f42.body.getD .skip)
theorem Fw_eqNodeSS_ok : FnOk Try.prog 42 Fw_eqNodeSS := by
  unfold Fw_eqNodeSS
  exact mkFn_ok (fn := Try.f42) mix C_ok tab_w_eqNodeS_ok Try.func42 (by kernel_rfl) (by kernel_rfl) (by kernel_rfl) (by kernel_rfl) (by decide)
noncomputable def tab_w_eqNodeSS : Tab := fun f => bif f == 42 then some Fw_eqNodeSS else tab_w_eqNodeS f
theorem tab_w_eqNodeSS_ok : TabOk Try.prog tab_w_eqNodeSS := tab_cons tab_w_eqNodeS_ok Fw_eqNodeSS_ok
noncomputable def Fw_eqAtomS : Am.Fn := mkFn C tab_w_eqNodeSS [0, 1, 2, 3, 5, 17, 19, 21, 23] 27 (fun k => bif k == 1000004 then some 35 else none) ⟨fun _ _ => none, fun s => Nat.testBit 0 s, fun _ => []⟩ [(ty102, .ro), (ty102, .ro)] [(ty4, 0)] [.tmp 4] (Try.f128.body.getD .skip)
theorem Fw_eqAtomS_ok : FnOk Try.prog 128 Fw_eqAtomS := by
  unfold Fw_eqAtomS
  exact mkFn_ok (fn := Try.f128) mix C_ok tab_w_eqNodeSS_ok Try.func128 (by kernel_rfl) (by kernel_rfl) (by kernel_rfl) (by kernel_rfl) (by decide)
noncomputable def tab_w_eqAtomS : Tab := fun f => bif f == 128 then some Fw_eqAtomS else tab_w_eqNodeSS f
theorem tab_w_eqAtomS_ok : TabOk Try.prog tab_w_eqAtomS := tab_cons tab_w_eqNodeSS_ok Fw_eqAtomS_ok
noncomputable def Fw_eqCell : Am.Fn := mkFn C tab_w_eqAtomS [0, 1, 2, 3, 5, 7, 10, 12] 16 (fun _ => none) ⟨fun _ _ => none, fun s => Nat.testBit 12 s, fun r => bif r == 2 then [11] else bif r == 3 then [13] else []⟩ [(ty104, .ro), (ty104, .ro)] [(ty4, 0)] [.tmp 4] (Try.f114.body.getD .skip)
theorem Fw_eqCell_ok : FnOk Try.prog 114 Fw_eqCell := by
  unfold Fw_eqCell
  exact mkFn_ok (fn := Try.f114) mix C_ok tab_w_eqAtomS_ok Try.func114 (by kernel_rfl) (by kernel_rfl) (by kernel_rfl) (by kernel_rfl) (by decide)
noncomputable def tab_w_eqCell : Tab := fun f => bif f == 114 then some Fw_eqCell else tab_w_eqAtomS f
theorem tab_w_eqCell_ok : TabOk Try.prog tab_w_eqCell := tab_cons tab_w_eqAtomS_ok Fw_eqCell_ok
noncomputable def Fw_eqRow : Am.Fn := mkFn C tab_w_eqCell [0, 1, 2, 3, 5, 7, 10, 12] 16 (fun _ => none) ⟨fun _ _ => none, fun s => Nat.testBit 12 s, fun r => bif r == 2 then [11] else bif r == 3 then [13] else []⟩ [(ty146, .ro), (ty146, .ro)] [(ty4, 0)] [.tmp 4] (Try.f113.body.getD .skip)
theorem Fw_eqRow_ok : FnOk Try.prog 113 Fw_eqRow := by
  unfold Fw_eqRow
  exact mkFn_ok (fn := Try.f113) mix C_ok tab_w_eqCell_ok Try.func113 (by kernel_rfl) (by kernel_rfl) (by kernel_rfl) (by kernel_rfl) (by decide)
noncomputable def tab_w_eqRow : Tab := fun f => bif f == 113 then some Fw_eqRow else tab_w_eqCell f
theorem tab_w_eqRow_ok : TabOk Try.prog tab_w_eqRow := tab_cons tab_w_eqCell_ok Fw_eqRow_ok
noncomputable def Fw_eqRowS : Am.Fn := mkFn C tab_w_eqRow [0, 1, 2, 3, 5, 17, 19, 21, 23] 27 (fun k => bif k == 1000004 then some 35 else none) ⟨fun _ _ => none, fun s => Nat.testBit 0 s, fun _ => []⟩ [(ty70, .ro), (ty70, .ro)] [(ty4, 0)] [.tmp 4] (Try.f89.body.getD .skip)
theorem Fw_eqRowS_ok : FnOk Try.prog 89 Fw_eqRowS := by
  unfold Fw_eqRowS
  exact mkFn_ok (fn := Try.f89) mix C_ok tab_w_eqRow_ok Try.func89 (by kernel_rfl) (by kernel_rfl) (by kernel_rfl) (by kernel_rfl) (by decide)
noncomputable def tab_w_eqRowS : Tab := fun f => bif f == 89 then some Fw_eqRowS else tab_w_eqRow f
theorem tab_w_eqRowS_ok : TabOk Try.prog tab_w_eqRowS := tab_cons tab_w_eqRow_ok Fw_eqRowS_ok
noncomputable def Fw_eqRelation : Am.Fn := mkFn C tab_w_eqRowS [0, 1, 2, 3, 5, 7, 10, 12, 15, 17] 21 (fun _ => none) ⟨fun _ _ => none, fun s => Nat.testBit 12 s, fun r => bif r == 2 then [16] else bif r == 3 then [18] else []⟩ [(ty72, .ro), (ty72, .ro)] [(ty4, 0)] [.tmp 4] (Try.f55.body.getD .skip)
theorem Fw_eqRelation_ok : FnOk Try.prog 55 Fw_eqRelation := by
  unfold Fw_eqRelation
  exact mkFn_ok (fn := Try.f55) mix C_ok tab_w_eqRowS_ok Try.func55 (by kernel_rfl) (by kernel_rfl) (by kernel_rfl) (by kernel_rfl) (by decide)
noncomputable def tab_w_eqRelation : Tab := fun f => bif f == 55 then some Fw_eqRelation else tab_w_eqRowS f
theorem tab_w_eqRelation_ok : TabOk Try.prog tab_w_eqRelation := tab_cons tab_w_eqRowS_ok Fw_eqRelation_ok
noncomputable def Fw_eqRelationS : Am.Fn := mkFn C tab_w_eqRelation [0, 1, 2, 3, 5, 17, 19, 21, 23] 27 (fun k => bif k == 1000004 then some 35 else none) ⟨fun _ _ => none, fun s => Nat.testBit 0 s, fun _ => []⟩ [(ty44, .ro), (ty44, .ro)] [(ty4, 0)] [.tmp 4] (Try.f26.body.getD .skip)
theorem Fw_eqRelationS_ok : FnOk Try.prog 26 Fw_eqRelationS := by
  unfold Fw_eqRelationS
  exact mkFn_ok (fn := Try.f26) mix C_ok tab_w_eqRelation_ok Try.func26 (by kernel_rfl) (by kernel_rfl) (by kernel_rfl) (by kernel_rfl) (by decide)
noncomputable def tab_w_eqRelationS : Tab := fun f => bif f == 26 then some Fw_eqRelationS else tab_w_eqRelation f
theorem tab_w_eqRelationS_ok : TabOk Try.prog tab_w_eqRelationS := tab_cons tab_w_eqRelation_ok Fw_eqRelationS_ok
noncomputable def Fw_eqRelationSS : Am.Fn := mkFn C tab_w_eqRelationS [0, 1, 2, 3, 5, 17, 19, 21, 23] 27 (fun k => bif k == 1000004 then some 35 else none) ⟨fun _ _ => none, fun s => Nat.testBit 0 s, fun _ => []⟩ [(ty26, .ro), (ty26, .ro)] [(ty4, 0)] [.tmp 4] (Try.f43.body.getD .skip)
theorem Fw_eqRelationSS_ok : FnOk Try.prog 43 Fw_eqRelationSS := by
  unfold Fw_eqRelationSS
  exact mkFn_ok (fn := Try.f43) mix C_ok tab_w_eqRelationS_ok Try.func43 (by kernel_rfl) (by kernel_rfl) (by kernel_rfl) (by kernel_rfl) (by decide)
noncomputable def tab_w_eqRelationSS : Tab := fun f => bif f == 43 then some Fw_eqRelationSS else tab_w_eqRelationS f
theorem tab_w_eqRelationSS_ok : TabOk Try.prog tab_w_eqRelationSS := tab_cons tab_w_eqRelationS_ok Fw_eqRelationSS_ok
noncomputable def Fw_eqStore : Am.Fn := mkFn C tab_w_eqRelationSS [0, 1, 2, 3, 5, 7, 11, 13] 17 (fun _ => none) ⟨fun _ _ => none, fun s => Nat.testBit 12 s, fun r => bif r == 2 then [6, 12] else bif r == 3 then [8, 14] else []⟩ [(ty28, .ro), (ty28, .ro)] [(ty4, 0)] [.tmp 4] (Try.f13.body.getD .skip)
theorem Fw_eqStore_ok : FnOk Try.prog 13 Fw_eqStore := by
  unfold Fw_eqStore
  exact mkFn_ok (fn := Try.f13) mix C_ok tab_w_eqRelationSS_ok Try.func13 (by kernel_rfl) (by kernel_rfl) (by kernel_rfl) (by kernel_rfl) (by decide)
noncomputable def tab_w_eqStore : Tab := fun f => bif f == 13 then some Fw_eqStore else tab_w_eqRelationSS f
theorem tab_w_eqStore_ok : TabOk Try.prog tab_w_eqStore := tab_cons tab_w_eqRelationSS_ok Fw_eqStore_ok
noncomputable def Fw_eqOp : Am.Fn := mkFn C tab_w_eqStore [0, 1, 2, 3, 5, 7, 10, 12, 15, 17, 20, 22, 26, 28] 32 (fun _ => none) ⟨fun _ _ => none, fun s => Nat.testBit 12 s, fun r => bif r == 2 then [21, 27] else bif r == 3 then [23, 29] else []⟩ [(ty132, .ro), (ty132, .ro)] [(ty4, 0)] [.tmp 4] (Try.f92.body.getD .skip)
theorem Fw_eqOp_ok : FnOk Try.prog 92 Fw_eqOp := by
  unfold Fw_eqOp
  exact mkFn_ok (fn := Try.f92) mix C_ok tab_w_eqStore_ok Try.func92 (by kernel_rfl) (by kernel_rfl) (by kernel_rfl) (by kernel_rfl) (by decide)
noncomputable def tab_w_eqOp : Tab := fun f => bif f == 92 then some Fw_eqOp else tab_w_eqStore f
theorem tab_w_eqOp_ok : TabOk Try.prog tab_w_eqOp := tab_cons tab_w_eqStore_ok Fw_eqOp_ok
noncomputable def Fw_eqOpS : Am.Fn := mkFn C tab_w_eqOp [0, 1, 2, 3, 5, 17, 19, 21, 23] 27 (fun k => bif k == 1000004 then some 35 else none) ⟨fun _ _ => none, fun s => Nat.testBit 0 s, fun _ => []⟩ [(ty51, .ro), (ty51, .ro)] [(ty4, 0)] [.tmp 4] (Try.f59.body.getD .skip)
theorem Fw_eqOpS_ok : FnOk Try.prog 59 Fw_eqOpS := by
  unfold Fw_eqOpS
  exact mkFn_ok (fn := Try.f59) mix C_ok tab_w_eqOp_ok Try.func59 (by kernel_rfl) (by kernel_rfl) (by kernel_rfl) (by kernel_rfl) (by decide)
noncomputable def tab_w_eqOpS : Tab := fun f => bif f == 59 then some Fw_eqOpS else tab_w_eqOp f
theorem tab_w_eqOpS_ok : TabOk Try.prog tab_w_eqOpS := tab_cons tab_w_eqOp_ok Fw_eqOpS_ok
noncomputable def Fw_eqStringS : Am.Fn := mkFn C tab_w_eqOpS [0, 1, 2, 3, 5, 17, 19, 21, 23] 26 (fun k => bif k == 1000004 then some 35 else none) ⟨fun _ _ => none, fun s => Nat.testBit 0 s, fun _ => []⟩ [(ty22, .ro), (ty22, .ro)] [(ty4, 0)] [.tmp 4] (Try.f14.body.getD .skip)
theorem Fw_eqStringS_ok : FnOk Try.prog 14 Fw_eqStringS := by
  unfold Fw_eqStringS
  exact mkFn_ok (fn := Try.f14) mix C_ok tab_w_eqOpS_ok Try.func14 (by kernel_rfl) (by kernel_rfl) (by kernel_rfl) (by kernel_rfl) (by decide)
noncomputable def tab_w_eqStringS : Tab := fun f => bif f == 14 then some Fw_eqStringS else tab_w_eqOpS f
theorem tab_w_eqStringS_ok : TabOk Try.prog tab_w_eqStringS := tab_cons tab_w_eqOpS_ok Fw_eqStringS_ok
noncomputable def Fw_eqIntSS : Am.Fn := mkFn C tab_w_eqStringS [0, 1, 2, 3, 5, 17, 19, 21, 23] 27 (fun k => bif k == 1000004 then some 35 else none) ⟨fun _ _ => none, fun s => Nat.testBit 0 s, fun _ => []⟩ [(ty105, .ro), (ty105, .ro)] [(ty4, 0)] [.tmp 4] (Try.f126.body.getD .skip)
theorem Fw_eqIntSS_ok : FnOk Try.prog 126 Fw_eqIntSS := by
  unfold Fw_eqIntSS
  exact mkFn_ok (fn := Try.f126) mix C_ok tab_w_eqStringS_ok Try.func126 (by kernel_rfl) (by kernel_rfl) (by kernel_rfl) (by kernel_rfl) (by decide)
noncomputable def tab_w_eqIntSS : Tab := fun f => bif f == 126 then some Fw_eqIntSS else tab_w_eqStringS f
theorem tab_w_eqIntSS_ok : TabOk Try.prog tab_w_eqIntSS := tab_cons tab_w_eqStringS_ok Fw_eqIntSS_ok
noncomputable def Fw_eqSupport : Am.Fn := mkFn C tab_w_eqIntSS [0, 1, 2, 3, 5, 7, 11, 13] 17 (fun _ => none) ⟨fun _ _ => none, fun s => Nat.testBit 12 s, fun r => bif r == 2 then [6, 12] else bif r == 3 then [8, 14] else []⟩ [(ty107, .ro), (ty107, .ro)] [(ty4, 0)] [.tmp 4] (Try.f102.body.getD .skip)
theorem Fw_eqSupport_ok : FnOk Try.prog 102 Fw_eqSupport := by
  unfold Fw_eqSupport
  exact mkFn_ok (fn := Try.f102) mix C_ok tab_w_eqIntSS_ok Try.func102 (by kernel_rfl) (by kernel_rfl) (by kernel_rfl) (by kernel_rfl) (by decide)
noncomputable def tab_w_eqSupport : Tab := fun f => bif f == 102 then some Fw_eqSupport else tab_w_eqIntSS f
theorem tab_w_eqSupport_ok : TabOk Try.prog tab_w_eqSupport := tab_cons tab_w_eqIntSS_ok Fw_eqSupport_ok
noncomputable def Fw_eqSupportS : Am.Fn := mkFn C tab_w_eqSupport [0, 1, 2, 3, 5, 17, 19, 21, 23] 27 (fun k => bif k == 1000004 then some 35 else none) ⟨fun _ _ => none, fun s => Nat.testBit 0 s, fun _ => []⟩ [(ty64, .ro), (ty64, .ro)] [(ty4, 0)] [.tmp 4] (Try.f72.body.getD .skip)
theorem Fw_eqSupportS_ok : FnOk Try.prog 72 Fw_eqSupportS := by
  unfold Fw_eqSupportS
  exact mkFn_ok (fn := Try.f72) mix C_ok tab_w_eqSupport_ok Try.func72 (by kernel_rfl) (by kernel_rfl) (by kernel_rfl) (by kernel_rfl) (by decide)
noncomputable def tab_w_eqSupportS : Tab := fun f => bif f == 72 then some Fw_eqSupportS else tab_w_eqSupport f
theorem tab_w_eqSupportS_ok : TabOk Try.prog tab_w_eqSupportS := tab_cons tab_w_eqSupport_ok Fw_eqSupportS_ok
noncomputable def Fw_eqView : Am.Fn := mkFn C tab_w_eqSupportS [0, 1, 2, 3, 5, 7, 11, 13] 17 (fun _ => none) ⟨fun _ _ => none, fun s => Nat.testBit 12 s, fun r => bif r == 2 then [6, 12] else bif r == 3 then [8, 14] else []⟩ [(ty66, .ro), (ty66, .ro)] [(ty4, 0)] [.tmp 4] (Try.f39.body.getD .skip)
theorem Fw_eqView_ok : FnOk Try.prog 39 Fw_eqView := by
  unfold Fw_eqView
  exact mkFn_ok (fn := Try.f39) mix C_ok tab_w_eqSupportS_ok Try.func39 (by kernel_rfl) (by kernel_rfl) (by kernel_rfl) (by kernel_rfl) (by decide)
noncomputable def tab_w_eqView : Tab := fun f => bif f == 39 then some Fw_eqView else tab_w_eqSupportS f
theorem tab_w_eqView_ok : TabOk Try.prog tab_w_eqView := tab_cons tab_w_eqSupportS_ok Fw_eqView_ok
noncomputable def Fw_eqViewS : Am.Fn := mkFn C tab_w_eqView [0, 1, 2, 3, 5, 17, 19, 21, 23] 27 (fun k => bif k == 1000004 then some 35 else none) ⟨fun _ _ => none, fun s => Nat.testBit 0 s, fun _ => []⟩ [(ty52, .ro), (ty52, .ro)] [(ty4, 0)] [.tmp 4] (Try.f60.body.getD .skip)
theorem Fw_eqViewS_ok : FnOk Try.prog 60 Fw_eqViewS := by
  unfold Fw_eqViewS
  exact mkFn_ok (fn := Try.f60) mix C_ok tab_w_eqView_ok Try.func60 (by kernel_rfl) (by kernel_rfl) (by kernel_rfl) (by kernel_rfl) (by decide)
noncomputable def tab_w_eqViewS : Tab := fun f => bif f == 60 then some Fw_eqViewS else tab_w_eqView f
theorem tab_w_eqViewS_ok : TabOk Try.prog tab_w_eqViewS := tab_cons tab_w_eqView_ok Fw_eqViewS_ok
noncomputable def Fw_eqHouse : Am.Fn := mkFn C tab_w_eqViewS [0, 1, 2, 3, 5, 7, 11, 13, 16, 18, 22, 24, 28, 30] 34 (fun _ => none) ⟨fun _ _ => none, fun s => Nat.testBit 12 s, fun r => bif r == 2 then [6, 17, 23, 29] else bif r == 3 then [8, 19, 25, 31] else []⟩ [(ty54, .ro), (ty54, .ro)] [(ty4, 0)] [.tmp 4] (Try.f32.body.getD .skip)
theorem Fw_eqHouse_ok : FnOk Try.prog 32 Fw_eqHouse := by
  unfold Fw_eqHouse
  exact mkFn_ok (fn := Try.f32) mix C_ok tab_w_eqViewS_ok Try.func32 (by kernel_rfl) (by kernel_rfl) (by kernel_rfl) (by kernel_rfl) (by decide)
noncomputable def tab_w_eqHouse : Tab := fun f => bif f == 32 then some Fw_eqHouse else tab_w_eqViewS f
theorem tab_w_eqHouse_ok : TabOk Try.prog tab_w_eqHouse := tab_cons tab_w_eqViewS_ok Fw_eqHouse_ok
noncomputable def Fw_markIntS : Am.Fn := mkFn C tab_w_eqHouse [0, 1, 2, 3, 5, 12] 19 (fun k => bif k == 1000002 then some 35 else none) ⟨fun _ _ => none, fun s => Nat.testBit 0 s, fun _ => []⟩ [(ty23, .mut 1), (ty3, .ro)] [(ty3, 0)] [.tmp 4] (Try.f17.body.getD .skip)
theorem Fw_markIntS_ok : FnOk Try.prog 17 Fw_markIntS := by
  unfold Fw_markIntS
  exact mkFn_ok (fn := Try.f17) mix C_ok tab_w_eqHouse_ok Try.func17 (by kernel_rfl) (by kernel_rfl) (by kernel_rfl) (by kernel_rfl) (by decide)
noncomputable def tab_w_markIntS : Tab := fun f => bif f == 17 then some Fw_markIntS else tab_w_eqHouse f
theorem tab_w_markIntS_ok : TabOk Try.prog tab_w_markIntS := tab_cons tab_w_eqHouse_ok Fw_markIntS_ok
noncomputable def Fw_markText : Am.Fn := mkFn C tab_w_markIntS [0, 1, 3] 20 (fun k => bif k == 1000004 then some 9 else none) ⟨fun _ _ => none, fun s => Nat.testBit 0 s, fun _ => []⟩ [(ty3, .ro)] [(ty9, 0)] [.tmp 2] (Try.f44.body.getD .skip)
theorem Fw_markText_ok : FnOk Try.prog 44 Fw_markText := by
  unfold Fw_markText
  exact mkFn_ok (fn := Try.f44) mix C_ok tab_w_markIntS_ok Try.func44 (by kernel_rfl) (by kernel_rfl) (by kernel_rfl) (by kernel_rfl) (by decide)
noncomputable def tab_w_markText : Tab := fun f => bif f == 44 then some Fw_markText else tab_w_markIntS f
theorem tab_w_markText_ok : TabOk Try.prog tab_w_markText := tab_cons tab_w_markIntS_ok Fw_markText_ok
noncomputable def Fw_markNodeS : Am.Fn := mkFn C tab_w_markText [0, 1, 2, 3, 5, 12, 15, 19, 21, 22, 23, 27, 30, 31, 35, 40, 41, 45, 49, 53, 57, 61, 63, 64, 68, 71, 75, 78, 82, 85] 90 (fun k => bif k == 1000002 then some 35 else none) ⟨fun _ _ => none, fun s => Nat.testBit 0 s, fun _ => []⟩ [(ty46, .mut 2), (ty3, .ro)] [(ty3, 0)] [.tmp 4] (Try.f77.body.getD .skip)
theorem Fw_markNodeS_ok : FnOk Try.prog 77 Fw_markNodeS := by
  unfold Fw_markNodeS
  exact mkFn_ok (fn := Try.f77) mix C_ok tab_w_markText_ok Try.func77 (by kernel_rfl) (by kernel_rfl) (by kernel_rfl) (by kernel_rfl) (by decide)
noncomputable def tab_w_markNodeS : Tab := fun f => bif f == 77 then some Fw_markNodeS else tab_w_markText f
theorem tab_w_markNodeS_ok : TabOk Try.prog tab_w_markNodeS := tab_cons tab_w_markText_ok Fw_markNodeS_ok
noncomputable def Fw_markNodeSS : Am.Fn := mkFn C tab_w_markNodeS [0, 1, 2, 3, 5, 12, 14] 19 (fun k => bif k == 1000002 then some 35 else none) ⟨fun _ _ => none, fun s => Nat.testBit 0 s, fun _ => []⟩ [(ty25, .mut 3), (ty3, .ro)] [(ty3, 0)] [.tmp 4] (Try.f45.body.getD .skip)
theorem Fw_markNodeSS_ok : FnOk Try.prog 45 Fw_markNodeSS := by
  unfold Fw_markNodeSS
  exact mkFn_ok (fn := Try.f45) mix C_ok tab_w_markNodeS_ok Try.func45 (by kernel_rfl) (by kernel_rfl) (by kernel_rfl) (by kernel_rfl) (by decide)
noncomputable def tab_w_markNodeSS : Tab := fun f => bif f == 45 then some Fw_markNodeSS else tab_w_markNodeS f
theorem tab_w_markNodeSS_ok : TabOk Try.prog tab_w_markNodeSS := tab_cons tab_w_markNodeS_ok Fw_markNodeSS_ok
noncomputable def Fw_markAtomS : Am.Fn := mkFn C tab_w_markNodeSS [0, 1, 2, 3, 5, 12, 14, 15, 19, 22, 26, 31] 36 (fun k => bif k == 1000002 then some 35 else none) ⟨fun _ _ => none, fun s => Nat.testBit 0 s, fun _ => []⟩ [(ty102, .mut 2), (ty3, .ro)] [(ty3, 0)] [.tmp 4] (Try.f93.body.getD .skip)
theorem Fw_markAtomS_ok : FnOk Try.prog 93 Fw_markAtomS := by
  unfold Fw_markAtomS
  exact mkFn_ok (fn := Try.f93) mix C_ok tab_w_markNodeSS_ok Try.func93 (by kernel_rfl) (by kernel_rfl) (by kernel_rfl) (by kernel_rfl) (by decide)
noncomputable def tab_w_markAtomS : Tab := fun f => bif f == 93 then some Fw_markAtomS else tab_w_markNodeSS f
theorem tab_w_markAtomS_ok : TabOk Try.prog tab_w_markAtomS := tab_cons tab_w_markNodeSS_ok Fw_markAtomS_ok
noncomputable def Fw_markRowS : Am.Fn := mkFn C tab_w_markAtomS [0, 1, 2, 3, 5, 12, 16, 20, 23, 24, 28, 30, 31, 32] 37 (fun k => bif k == 1000002 then some 35 else none) ⟨fun _ _ => none, fun s => Nat.testBit 0 s, fun _ => []⟩ [(ty70, .mut 3), (ty3, .ro)] [(ty3, 0)] [.tmp 4] (Try.f106.body.getD .skip)
theorem Fw_markRowS_ok : FnOk Try.prog 106 Fw_markRowS := by
  unfold Fw_markRowS
  exact mkFn_ok (fn := Try.f106) mix C_ok tab_w_markAtomS_ok Try.func106 (by kernel_rfl) (by kernel_rfl) (by kernel_rfl) (by kernel_rfl) (by decide)
noncomputable def tab_w_markRowS : Tab := fun f => bif f == 106 then some Fw_markRowS else tab_w_markAtomS f
theorem tab_w_markRowS_ok : TabOk Try.prog tab_w_markRowS := tab_cons tab_w_markAtomS_ok Fw_markRowS_ok
noncomputable def Fw_markRelationS : Am.Fn := mkFn C tab_w_markRowS [0, 1, 2, 3, 5, 12, 16, 20, 23, 27, 29, 30] 35 (fun k => bif k == 1000002 then some 35 else none) ⟨fun _ _ => none, fun s => Nat.testBit 0 s, fun _ => []⟩ [(ty44, .mut 4), (ty3, .ro)] [(ty3, 0)] [.tmp 4] (Try.f78.body.getD .skip)
theorem Fw_markRelationS_ok : FnOk Try.prog 78 Fw_markRelationS := by
  unfold Fw_markRelationS
  exact mkFn_ok (fn := Try.f78) mix C_ok tab_w_markRowS_ok Try.func78 (by kernel_rfl) (by kernel_rfl) (by kernel_rfl) (by kernel_rfl) (by decide)
noncomputable def tab_w_markRelationS : Tab := fun f => bif f == 78 then some Fw_markRelationS else tab_w_markRowS f
theorem tab_w_markRelationS_ok : TabOk Try.prog tab_w_markRelationS := tab_cons tab_w_markRowS_ok Fw_markRelationS_ok
noncomputable def Fw_markRelationSS : Am.Fn := mkFn C tab_w_markRelationS [0, 1, 2, 3, 5, 12, 14] 19 (fun k => bif k == 1000002 then some 35 else none) ⟨fun _ _ => none, fun s => Nat.testBit 0 s, fun _ => []⟩ [(ty26, .mut 5), (ty3, .ro)] [(ty3, 0)] [.tmp 4] (Try.f46.body.getD .skip)
theorem Fw_markRelationSS_ok : FnOk Try.prog 46 Fw_markRelationSS := by
  unfold Fw_markRelationSS
  exact mkFn_ok (fn := Try.f46) mix C_ok tab_w_markRelationS_ok Try.func46 (by kernel_rfl) (by kernel_rfl) (by kernel_rfl) (by kernel_rfl) (by decide)
noncomputable def tab_w_markRelationSS : Tab := fun f => bif f == 46 then some Fw_markRelationSS else tab_w_markRelationS f
theorem tab_w_markRelationSS_ok : TabOk Try.prog tab_w_markRelationSS := tab_cons tab_w_markRelationS_ok Fw_markRelationSS_ok
noncomputable def Fw_markStore : Am.Fn := mkFn C tab_w_markRelationSS [0, 1, 2, 3, 5, 9] 14 (fun _ => none) ⟨fun _ _ => none, fun s => Nat.testBit 4 s, fun r => bif r == 2 then [6, 10] else []⟩ [(ty28, .mut 5), (ty3, .ro)] [(ty3, 0)] [.tmp 4] (Try.f18.body.getD .skip)
theorem Fw_markStore_ok : FnOk Try.prog 18 Fw_markStore := by
  unfold Fw_markStore
  exact mkFn_ok (fn := Try.f18) mix C_ok tab_w_markRelationSS_ok Try.func18 (by kernel_rfl) (by kernel_rfl) (by kernel_rfl) (by kernel_rfl) (by decide)
noncomputable def tab_w_markStore : Tab := fun f => bif f == 18 then some Fw_markStore else tab_w_markRelationSS f
theorem tab_w_markStore_ok : TabOk Try.prog tab_w_markStore := tab_cons tab_w_markRelationSS_ok Fw_markStore_ok
noncomputable def Fw_markOpS : Am.Fn := mkFn C tab_w_markStore [0, 1, 2, 3, 5, 12, 15, 19, 23, 27, 31, 35, 38, 39, 43, 45, 46, 47, 51, 53, 54] 59 (fun k => bif k == 1000002 then some 35 else none) ⟨fun _ _ => none, fun s => Nat.testBit 0 s, fun _ => []⟩ [(ty51, .mut 3), (ty3, .ro)] [(ty3, 0)] [.tmp 4] (Try.f61.body.getD .skip)
theorem Fw_markOpS_ok : FnOk Try.prog 61 Fw_markOpS := by
  unfold Fw_markOpS
  exact mkFn_ok (fn := Try.f61) mix C_ok tab_w_markStore_ok Try.func61 (by kernel_rfl) (by kernel_rfl) (by kernel_rfl) (by kernel_rfl) (by decide)
noncomputable def tab_w_markOpS : Tab := fun f => bif f == 61 then some Fw_markOpS else tab_w_markStore f
theorem tab_w_markOpS_ok : TabOk Try.prog tab_w_markOpS := tab_cons tab_w_markStore_ok Fw_markOpS_ok
noncomputable def Fw_markStringS : Am.Fn := mkFn C tab_w_markOpS [0, 1, 2, 3, 5, 12] 20 (fun k => bif k == 1000002 then some 35 else none) ⟨fun _ _ => none, fun s => Nat.testBit 0 s, fun _ => []⟩ [(ty22, .mut 1), (ty3, .ro)] [(ty3, 0)] [.tmp 4] (Try.f16.body.getD .skip)
theorem Fw_markStringS_ok : FnOk Try.prog 16 Fw_markStringS := by
  unfold Fw_markStringS
  exact mkFn_ok (fn := Try.f16) mix C_ok tab_w_markOpS_ok Try.func16 (by kernel_rfl) (by kernel_rfl) (by kernel_rfl) (by kernel_rfl) (by decide)
noncomputable def tab_w_markStringS : Tab := fun f => bif f == 16 then some Fw_markStringS else tab_w_markOpS f
theorem tab_w_markStringS_ok : TabOk Try.prog tab_w_markStringS := tab_cons tab_w_markOpS_ok Fw_markStringS_ok
noncomputable def Fw_markIntSS : Am.Fn := mkFn C tab_w_markStringS [0, 1, 2, 3, 5, 12, 14] 19 (fun k => bif k == 1000002 then some 35 else none) ⟨fun _ _ => none, fun s => Nat.testBit 0 s, fun _ => []⟩ [(ty105, .mut 2), (ty3, .ro)] [(ty3, 0)] [.tmp 4] (Try.f115.body.getD .skip)
theorem Fw_markIntSS_ok : FnOk Try.prog 115 Fw_markIntSS := by
  unfold Fw_markIntSS
  exact mkFn_ok (fn := Try.f115) mix C_ok tab_w_markStringS_ok Try.func115 (by kernel_rfl) (by kernel_rfl) (by kernel_rfl) (by kernel_rfl) (by decide)
noncomputable def tab_w_markIntSS : Tab := fun f => bif f == 115 then some Fw_markIntSS else tab_w_markStringS f
theorem tab_w_markIntSS_ok : TabOk Try.prog tab_w_markIntSS := tab_cons tab_w_markStringS_ok Fw_markIntSS_ok
noncomputable def Fw_markSupportS : Am.Fn := mkFn C tab_w_markIntSS [0, 1, 2, 3, 5, 12, 15, 16, 20, 22, 23, 24, 28, 30, 31] 36 (fun k => bif k == 1000002 then some 35 else none) ⟨fun _ _ => none, fun s => Nat.testBit 0 s, fun _ => []⟩ [(ty64, .mut 3), (ty3, .ro)] [(ty3, 0)] [.tmp 4] (Try.f94.body.getD .skip)
theorem Fw_markSupportS_ok : FnOk Try.prog 94 Fw_markSupportS := by
  unfold Fw_markSupportS
  exact mkFn_ok (fn := Try.f94) mix C_ok tab_w_markIntSS_ok Try.func94 (by kernel_rfl) (by kernel_rfl) (by kernel_rfl) (by kernel_rfl) (by decide)
noncomputable def tab_w_markSupportS : Tab := fun f => bif f == 94 then some Fw_markSupportS else tab_w_markIntSS f
theorem tab_w_markSupportS_ok : TabOk Try.prog tab_w_markSupportS := tab_cons tab_w_markIntSS_ok Fw_markSupportS_ok
noncomputable def Fw_markViewS : Am.Fn := mkFn C tab_w_markSupportS [0, 1, 2, 3, 5, 12, 14, 15, 19, 21, 22] 27 (fun k => bif k == 1000002 then some 35 else none) ⟨fun _ _ => none, fun s => Nat.testBit 0 s, fun _ => []⟩ [(ty52, .mut 4), (ty3, .ro)] [(ty3, 0)] [.tmp 4] (Try.f62.body.getD .skip)
theorem Fw_markViewS_ok : FnOk Try.prog 62 Fw_markViewS := by
  unfold Fw_markViewS
  exact mkFn_ok (fn := Try.f62) mix C_ok tab_w_markSupportS_ok Try.func62 (by kernel_rfl) (by kernel_rfl) (by kernel_rfl) (by kernel_rfl) (by decide)
noncomputable def tab_w_markViewS : Tab := fun f => bif f == 62 then some Fw_markViewS else tab_w_markSupportS f
theorem tab_w_markViewS_ok : TabOk Try.prog tab_w_markViewS := tab_cons tab_w_markSupportS_ok Fw_markViewS_ok
noncomputable def Fw_markHouse : Am.Fn := mkFn C tab_w_markViewS [0, 1, 2, 3, 5, 9, 13, 17] 22 (fun _ => none) ⟨fun _ _ => none, fun s => Nat.testBit 4 s, fun r => bif r == 2 then [6, 10, 14, 18] else []⟩ [(ty54, .mut 5), (ty3, .ro)] [(ty3, 0)] [.tmp 4] (Try.f33.body.getD .skip)
theorem Fw_markHouse_ok : FnOk Try.prog 33 Fw_markHouse := by
  unfold Fw_markHouse
  exact mkFn_ok (fn := Try.f33) mix C_ok tab_w_markViewS_ok Try.func33 (by kernel_rfl) (by kernel_rfl) (by kernel_rfl) (by kernel_rfl) (by decide)
noncomputable def tab_w_markHouse : Tab := fun f => bif f == 33 then some Fw_markHouse else tab_w_markViewS f
theorem tab_w_markHouse_ok : TabOk Try.prog tab_w_markHouse := tab_cons tab_w_markViewS_ok Fw_markHouse_ok
noncomputable def Fw_heldIntS : Am.Fn := mkFn C tab_w_markHouse [0, 1, 2, 3, 5, 12, 14] 21 (fun k => bif k == 1000002 then some 35 else none) ⟨fun _ _ => none, fun s => Nat.testBit 0 s, fun _ => []⟩ [(ty23, .ro), (ty3, .ro)] [(ty3, 0)] [.tmp 4] (Try.f96.body.getD .skip)
theorem Fw_heldIntS_ok : FnOk Try.prog 96 Fw_heldIntS := by
  unfold Fw_heldIntS
  exact mkFn_ok (fn := Try.f96) mix C_ok tab_w_markHouse_ok Try.func96 (by kernel_rfl) (by kernel_rfl) (by kernel_rfl) (by kernel_rfl) (by decide)
noncomputable def tab_w_heldIntS : Tab := fun f => bif f == 96 then some Fw_heldIntS else tab_w_markHouse f
theorem tab_w_heldIntS_ok : TabOk Try.prog tab_w_heldIntS := tab_cons tab_w_markHouse_ok Fw_heldIntS_ok
noncomputable def Fw_heldNodeS : Am.Fn := mkFn C tab_w_heldIntS [0, 1, 2, 3, 5, 12, 14, 15, 21, 23, 24, 25, 31, 33, 34, 35, 41, 43, 44, 45, 53, 55, 56, 63, 65, 66, 73, 75, 76, 82, 84, 85, 91, 93, 94, 100, 102, 103] 110 (fun k => bif k == 1000002 then some 35 else none) ⟨fun _ _ => none, fun s => Nat.testBit 0 s, fun _ => []⟩ [(ty46, .ro), (ty3, .ro)] [(ty3, 0)] [.tmp 4] (Try.f79.body.getD .skip)
theorem Fw_heldNodeS_ok : FnOk Try.prog 79 Fw_heldNodeS := by
  unfold Fw_heldNodeS
  exact mkFn_ok (fn := Try.f79) mix C_ok tab_w_heldIntS_ok Try.func79 (by kernel_rfl) (by kernel_rfl) (by kernel_rfl) (by kernel_rfl) (by decide)
noncomputable def tab_w_heldNodeS : Tab := fun f => bif f == 79 then some Fw_heldNodeS else tab_w_heldIntS f
theorem tab_w_heldNodeS_ok : TabOk Try.prog tab_w_heldNodeS := tab_cons tab_w_heldIntS_ok Fw_heldNodeS_ok
noncomputable def Fw_heldNodeSS : Am.Fn := mkFn C tab_w_heldNodeS [0, 1, 2, 3, 5, 12, 14] 21 (fun k => bif k == 1000002 then some 35 else none) ⟨fun _ _ => none, fun s => Nat.testBit 0 s, fun _ => []⟩ [(ty25, .ro), (ty3, .ro)] [(ty3, 0)] [.tmp 4] (Try.f47.body.getD .skip)
theorem Fw_heldNodeSS_ok : FnOk Try.prog 47 Fw_heldNodeSS := by
  unfold Fw_heldNodeSS
  exact mkFn_ok (fn := Try.f47) mix C_ok tab_w_heldNodeS_ok Try.func47 (by kernel_rfl) (by kernel_rfl) (by kernel_rfl) (by kernel_rfl) (by decide)
noncomputable def tab_w_heldNodeSS : Tab := fun f => bif f == 47 then some Fw_heldNodeSS else tab_w_heldNodeS f
theorem tab_w_heldNodeSS_ok : TabOk Try.prog tab_w_heldNodeSS := tab_cons tab_w_heldNodeS_ok Fw_heldNodeSS_ok
noncomputable def Fw_heldAtomS : Am.Fn := mkFn C tab_w_heldNodeSS [0, 1, 2, 3, 5, 12, 14, 15, 21, 23, 24, 30, 32, 33] 42 (fun k => bif k == 1000002 then some 35 else none) ⟨fun _ _ => none, fun s => Nat.testBit 0 s, fun _ => []⟩ [(ty102, .ro), (ty3, .ro)] [(ty3, 0)] [.tmp 4] (Try.f95.body.getD .skip)
theorem Fw_heldAtomS_ok : FnOk Try.prog 95 Fw_heldAtomS := by
  unfold Fw_heldAtomS
  exact mkFn_ok (fn := Try.f95) mix C_ok tab_w_heldNodeSS_ok Try.func95 (by kernel_rfl) (by kernel_rfl) (by kernel_rfl) (by kernel_rfl) (by decide)
noncomputable def tab_w_heldAtomS : Tab := fun f => bif f == 95 then some Fw_heldAtomS else tab_w_heldNodeSS f
theorem tab_w_heldAtomS_ok : TabOk Try.prog tab_w_heldAtomS := tab_cons tab_w_heldNodeSS_ok Fw_heldAtomS_ok
noncomputable def Fw_heldRowS : Am.Fn := mkFn C tab_w_heldAtomS [0, 1, 2, 3, 5, 12, 14, 15, 22, 24, 25, 26, 32, 34, 35, 36] 43 (fun k => bif k == 1000002 then some 35 else none) ⟨fun _ _ => none, fun s => Nat.testBit 0 s, fun _ => []⟩ [(ty70, .ro), (ty3, .ro)] [(ty3, 0)] [.tmp 4] (Try.f107.body.getD .skip)
theorem Fw_heldRowS_ok : FnOk Try.prog 107 Fw_heldRowS := by
  unfold Fw_heldRowS
  exact mkFn_ok (fn := Try.f107) mix C_ok tab_w_heldAtomS_ok Try.func107 (by kernel_rfl) (by kernel_rfl) (by kernel_rfl) (by kernel_rfl) (by decide)
noncomputable def tab_w_heldRowS : Tab := fun f => bif f == 107 then some Fw_heldRowS else tab_w_heldAtomS f
theorem tab_w_heldRowS_ok : TabOk Try.prog tab_w_heldRowS := tab_cons tab_w_heldAtomS_ok Fw_heldRowS_ok
noncomputable def Fw_heldRelationS : Am.Fn := mkFn C tab_w_heldRowS [0, 1, 2, 3, 5, 12, 14, 15, 22, 24, 25, 31, 33, 34] 41 (fun k => bif k == 1000002 then some 35 else none) ⟨fun _ _ => none, fun s => Nat.testBit 0 s, fun _ => []⟩ [(ty44, .ro), (ty3, .ro)] [(ty3, 0)] [.tmp 4] (Try.f80.body.getD .skip)
theorem Fw_heldRelationS_ok : FnOk Try.prog 80 Fw_heldRelationS := by
  unfold Fw_heldRelationS
  exact mkFn_ok (fn := Try.f80) mix C_ok tab_w_heldRowS_ok Try.func80 (by kernel_rfl) (by kernel_rfl) (by kernel_rfl) (by kernel_rfl) (by decide)
noncomputable def tab_w_heldRelationS : Tab := fun f => bif f == 80 then some Fw_heldRelationS else tab_w_heldRowS f
theorem tab_w_heldRelationS_ok : TabOk Try.prog tab_w_heldRelationS := tab_cons tab_w_heldRowS_ok Fw_heldRelationS_ok
noncomputable def Fw_heldRelationSS : Am.Fn := mkFn C tab_w_heldRelationS [0, 1, 2, 3, 5, 12, 14] 21 (fun k => bif k == 1000002 then some 35 else none) ⟨fun _ _ => none, fun s => Nat.testBit 0 s, fun _ => []⟩ [(ty26, .ro), (ty3, .ro)] [(ty3, 0)] [.tmp 4] (Try.f48.body.getD .skip)
theorem Fw_heldRelationSS_ok : FnOk Try.prog 48 Fw_heldRelationSS := by
  unfold Fw_heldRelationSS
  exact mkFn_ok (fn := Try.f48) mix C_ok tab_w_heldRelationS_ok Try.func48 (by kernel_rfl) (by kernel_rfl) (by kernel_rfl) (by kernel_rfl) (by decide)
noncomputable def tab_w_heldRelationSS : Tab := fun f => bif f == 48 then some Fw_heldRelationSS else tab_w_heldRelationS f
theorem tab_w_heldRelationSS_ok : TabOk Try.prog tab_w_heldRelationSS := tab_cons tab_w_heldRelationS_ok Fw_heldRelationSS_ok
noncomputable def Fw_heldStore : Am.Fn := mkFn C tab_w_heldRelationSS [0, 1, 2, 3, 5, 11] 18 (fun _ => none) ⟨fun _ _ => none, fun s => Nat.testBit 4 s, fun r => bif r == 2 then [6, 12] else []⟩ [(ty28, .ro), (ty3, .ro)] [(ty3, 0)] [.tmp 4] (Try.f19.body.getD .skip)
theorem Fw_heldStore_ok : FnOk Try.prog 19 Fw_heldStore := by
  unfold Fw_heldStore
  exact mkFn_ok (fn := Try.f19) mix C_ok tab_w_heldRelationSS_ok Try.func19 (by kernel_rfl) (by kernel_rfl) (by kernel_rfl) (by kernel_rfl) (by decide)
noncomputable def tab_w_heldStore : Tab := fun f => bif f == 19 then some Fw_heldStore else tab_w_heldRelationSS f
theorem tab_w_heldStore_ok : TabOk Try.prog tab_w_heldStore := tab_cons tab_w_heldRelationSS_ok Fw_heldStore_ok
noncomputable def Fw_heldOpS : Am.Fn := mkFn C tab_w_heldStore [0, 1, 2, 3, 5, 12, 14, 15, 21, 23, 24, 31, 33, 34, 41, 43, 44, 45, 51, 53, 54, 55, 61, 63, 64] 71 (fun k => bif k == 1000002 then some 35 else none) ⟨fun _ _ => none, fun s => Nat.testBit 0 s, fun _ => []⟩ [(ty51, .ro), (ty3, .ro)] [(ty3, 0)] [.tmp 4] (Try.f63.body.getD .skip)
theorem Fw_heldOpS_ok : FnOk Try.prog 63 Fw_heldOpS := by
  unfold Fw_heldOpS
  exact mkFn_ok (fn := Try.f63) mix C_ok tab_w_heldStore_ok Try.func63 (by kernel_rfl) (by kernel_rfl) (by kernel_rfl) (by kernel_rfl) (by decide)
noncomputable def tab_w_heldOpS : Tab := fun f => bif f == 63 then some Fw_heldOpS else tab_w_heldStore f
theorem tab_w_heldOpS_ok : TabOk Try.prog tab_w_heldOpS := tab_cons tab_w_heldStore_ok Fw_heldOpS_ok
noncomputable def Fw_heldStringS : Am.Fn := mkFn C tab_w_heldOpS [0, 1, 2, 3, 5, 12, 14] 22 (fun k => bif k == 1000002 then some 35 else none) ⟨fun _ _ => none, fun s => Nat.testBit 0 s, fun _ => []⟩ [(ty22, .ro), (ty3, .ro)] [(ty3, 0)] [.tmp 4] (Try.f64.body.getD .skip)
theorem Fw_heldStringS_ok : FnOk Try.prog 64 Fw_heldStringS := by
  unfold Fw_heldStringS
  exact mkFn_ok (fn := Try.f64) mix C_ok tab_w_heldOpS_ok Try.func64 (by kernel_rfl) (by kernel_rfl) (by kernel_rfl) (by kernel_rfl) (by decide)
noncomputable def tab_w_heldStringS : Tab := fun f => bif f == 64 then some Fw_heldStringS else tab_w_heldOpS f
theorem tab_w_heldStringS_ok : TabOk Try.prog tab_w_heldStringS := tab_cons tab_w_heldOpS_ok Fw_heldStringS_ok
noncomputable def Fw_heldIntSS : Am.Fn := mkFn C tab_w_heldStringS [0, 1, 2, 3, 5, 12, 14] 21 (fun k => bif k == 1000002 then some 35 else none) ⟨fun _ _ => none, fun s => Nat.testBit 0 s, fun _ => []⟩ [(ty105, .ro), (ty3, .ro)] [(ty3, 0)] [.tmp 4] (Try.f116.body.getD .skip)
theorem Fw_heldIntSS_ok : FnOk Try.prog 116 Fw_heldIntSS := by
  unfold Fw_heldIntSS
  exact mkFn_ok (fn := Try.f116) mix C_ok tab_w_heldStringS_ok Try.func116 (by kernel_rfl) (by kernel_rfl) (by kernel_rfl) (by kernel_rfl) (by decide)
noncomputable def tab_w_heldIntSS : Tab := fun f => bif f == 116 then some Fw_heldIntSS else tab_w_heldStringS f
theorem tab_w_heldIntSS_ok : TabOk Try.prog tab_w_heldIntSS := tab_cons tab_w_heldStringS_ok Fw_heldIntSS_ok
noncomputable def Fw_heldSupportS : Am.Fn := mkFn C tab_w_heldIntSS [0, 1, 2, 3, 5, 12, 14, 15, 16, 22, 24, 25, 26, 32, 34, 35] 42 (fun k => bif k == 1000002 then some 35 else none) ⟨fun _ _ => none, fun s => Nat.testBit 0 s, fun _ => []⟩ [(ty64, .ro), (ty3, .ro)] [(ty3, 0)] [.tmp 4] (Try.f97.body.getD .skip)
theorem Fw_heldSupportS_ok : FnOk Try.prog 97 Fw_heldSupportS := by
  unfold Fw_heldSupportS
  exact mkFn_ok (fn := Try.f97) mix C_ok tab_w_heldIntSS_ok Try.func97 (by kernel_rfl) (by kernel_rfl) (by kernel_rfl) (by kernel_rfl) (by decide)
noncomputable def tab_w_heldSupportS : Tab := fun f => bif f == 97 then some Fw_heldSupportS else tab_w_heldIntSS f
theorem tab_w_heldSupportS_ok : TabOk Try.prog tab_w_heldSupportS := tab_cons tab_w_heldIntSS_ok Fw_heldSupportS_ok
noncomputable def Fw_heldViewS : Am.Fn := mkFn C tab_w_heldSupportS [0, 1, 2, 3, 5, 12, 14, 15, 21, 23, 24] 31 (fun k => bif k == 1000002 then some 35 else none) ⟨fun _ _ => none, fun s => Nat.testBit 0 s, fun _ => []⟩ [(ty52, .ro), (ty3, .ro)] [(ty3, 0)] [.tmp 4] (Try.f65.body.getD .skip)
theorem Fw_heldViewS_ok : FnOk Try.prog 65 Fw_heldViewS := by
  unfold Fw_heldViewS
  exact mkFn_ok (fn := Try.f65) mix C_ok tab_w_heldSupportS_ok Try.func65 (by kernel_rfl) (by kernel_rfl) (by kernel_rfl) (by kernel_rfl) (by decide)
noncomputable def tab_w_heldViewS : Tab := fun f => bif f == 65 then some Fw_heldViewS else tab_w_heldSupportS f
theorem tab_w_heldViewS_ok : TabOk Try.prog tab_w_heldViewS := tab_cons tab_w_heldSupportS_ok Fw_heldViewS_ok
noncomputable def Fw_heldHouse : Am.Fn := mkFn C tab_w_heldViewS [0, 1, 2, 3, 5, 11, 17, 23] 30 (fun _ => none) ⟨fun _ _ => none, fun s => Nat.testBit 4 s, fun r => bif r == 2 then [6, 12, 18, 24] else []⟩ [(ty54, .ro), (ty3, .ro)] [(ty3, 0)] [.tmp 4] (Try.f34.body.getD .skip)
theorem Fw_heldHouse_ok : FnOk Try.prog 34 Fw_heldHouse := by
  unfold Fw_heldHouse
  exact mkFn_ok (fn := Try.f34) mix C_ok tab_w_heldViewS_ok Try.func34 (by kernel_rfl) (by kernel_rfl) (by kernel_rfl) (by kernel_rfl) (by decide)
noncomputable def tab_w_heldHouse : Tab := fun f => bif f == 34 then some Fw_heldHouse else tab_w_heldViewS f
theorem tab_w_heldHouse_ok : TabOk Try.prog tab_w_heldHouse := tab_cons tab_w_heldViewS_ok Fw_heldHouse_ok
noncomputable def Fw_FnExactNewHouse : Am.Fn := mkFn C tab_w_heldHouse [1, 2, 3, 4, 5] 36 (fun k => bif k == 1 then some 1 else bif k == 2 then some 3 else bif k == 13 then some 15 else none) ⟨fun _ _ => none, fun s => Nat.testBit 38 s, fun r => bif r == 1 then [9, 25] else bif r == 2 then [8, 12, 15, 28] else bif r == 5 then [24] else []⟩ [] [(ty4, 0)] [.tmp 0] (Try.f6.body.getD .skip)
theorem Fw_FnExactNewHouse_ok : FnOk Try.prog 6 Fw_FnExactNewHouse := by
  unfold Fw_FnExactNewHouse
  exact mkFn_ok (fn := Try.f6) mix C_ok tab_w_heldHouse_ok Try.func6 (by kernel_rfl) (by kernel_rfl) (by kernel_rfl) (by kernel_rfl) (by decide)
noncomputable def tab_w_FnExactNewHouse : Tab := fun f => bif f == 6 then some Fw_FnExactNewHouse else tab_w_heldHouse f
theorem tab_w_FnExactNewHouse_ok : TabOk Try.prog tab_w_FnExactNewHouse := tab_cons tab_w_heldHouse_ok Fw_FnExactNewHouse_ok
end Go.Proofs.Ytjccadhifgkdbaa.P.It
