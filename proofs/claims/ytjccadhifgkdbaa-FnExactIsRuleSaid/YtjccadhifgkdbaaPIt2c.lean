/- A part of the proof: It2c. No conditions. -/
import Derived.Test.YtjccadhifgkdbaaPG6
import Derived.Test.YtjccadhifgkdbaaChecked
import Derived.KernelRfl
set_option linter.unusedVariables false
set_option maxRecDepth 100000
namespace Go.Proofs.Ytjccadhifgkdbaa.P.It
open Am
abbrev ty1 : Ty := (.raw 1)
abbrev ty2 : Ty := (.int .i64)
abbrev ty3 : Ty := (.int .i64)
abbrev ty4 : Ty := .bool
abbrev ty5 : Ty := (.int .u8)
abbrev ty9 : Ty := .str
abbrev ty12 : Ty := (.int .u64)
abbrev ty20 : Ty := (.raw 2)
abbrev ty21 : Ty := (.int .i32)
abbrev ty22 : Ty := (.slice 9 ty9)
abbrev ty23 : Ty := (.slice 3 ty3)
abbrev ty24 : Ty := (.raw 1)
abbrev ty30 : Ty := (.raw 1)
abbrev ty31 : Ty := (.raw 1)
abbrev ty32 : Ty := (.raw 1)
abbrev ty33 : Ty := (.raw 1)
abbrev ty34 : Ty := (.raw 1)
abbrev ty35 : Ty := (.raw 1)
abbrev ty36 : Ty := (.raw 1)
abbrev ty37 : Ty := (.raw 1)
abbrev ty38 : Ty := (.raw 1)
abbrev ty41 : Ty := (.raw 1)
abbrev ty42 : Ty := (.raw 1)
abbrev ty43 : Ty := (.raw 1)
abbrev ty45 : Ty := (.raw 1)
abbrev ty47 : Ty := (.raw 1)
abbrev ty48 : Ty := (.raw 1)
abbrev ty49 : Ty := (.raw 1)
abbrev ty50 : Ty := (.raw 1)
abbrev ty55 : Ty := (.raw 1)
abbrev ty56 : Ty := (.raw 1)
abbrev ty57 : Ty := (.raw 1)
abbrev ty58 : Ty := (.raw 1)
abbrev ty62 : Ty := (.raw 1)
abbrev ty63 : Ty := (.raw 1)
abbrev ty67 : Ty := (.raw 1)
abbrev ty68 : Ty := (.raw 1)
abbrev ty69 : Ty := (.raw 1)
abbrev ty73 : Ty := (.raw 1)
abbrev ty74 : Ty := (.raw 1)
abbrev ty75 : Ty := (.raw 1)
abbrev ty76 : Ty := (.raw 1)
abbrev ty77 : Ty := (.raw 1)
abbrev ty78 : Ty := (.raw 1)
abbrev ty79 : Ty := (.raw 1)
abbrev ty83 : Ty := (.raw 1)
abbrev ty84 : Ty := (.agg (.pair ty23 (.pair ty3 ty4)))
abbrev ty85 : Ty := (.agg (.pair ty23 (.pair ty3 ty4)))
abbrev ty86 : Ty := (.agg (.pair ty3 (.pair ty85 (.pair ty9 (.pair ty9 (.pair ty23 (.pair ty3 (.pair ty3 ty3))))))))
abbrev ty87 : Ty := (.agg (.pair ty3 (.pair ty85 (.pair ty9 (.pair ty9 (.pair ty23 (.pair ty3 (.pair ty3 ty3))))))))
abbrev ty88 : Ty := (.agg (.pair ty23 (.pair ty3 ty4)))
abbrev ty89 : Ty := (.agg (.pair ty3 (.pair ty88 (.pair ty9 (.pair ty9 (.pair ty23 (.pair ty3 (.pair ty3 ty3))))))))
abbrev ty90 : Ty := (.agg (.pair ty3 (.pair ty88 (.pair ty9 (.pair ty9 (.pair ty23 (.pair ty3 (.pair ty3 ty3))))))))
abbrev ty91 : Ty := (.raw 1)
abbrev ty92 : Ty := (.raw 1)
abbrev ty93 : Ty := (.raw 1)
abbrev ty94 : Ty := (.raw 1)
abbrev ty96 : Ty := (.raw 1)
abbrev ty97 : Ty := (.raw 1)
abbrev ty98 : Ty := (.raw 1)
abbrev ty99 : Ty := (.raw 1)
abbrev ty100 : Ty := (.raw 1)
abbrev ty101 : Ty := (.raw 1)
abbrev ty102 : Ty := (.slice 88 ty88)
abbrev ty103 : Ty := (.agg (.pair ty3 ty102))
abbrev ty104 : Ty := (.agg (.pair ty3 ty102))
abbrev ty105 : Ty := (.slice 23 ty23)
abbrev ty106 : Ty := (.agg (.pair ty104 ty105))
abbrev ty107 : Ty := (.agg (.pair ty104 ty105))
abbrev ty108 : Ty := (.raw 1)
abbrev ty109 : Ty := (.raw 1)
abbrev ty110 : Ty := (.raw 1)
abbrev ty111 : Ty := (.raw 1)
abbrev ty112 : Ty := (.raw 1)
abbrev ty113 : Ty := (.raw 1)
abbrev ty114 : Ty := (.raw 1)
abbrev ty115 : Ty := (.slice 5 ty5)
abbrev ty116 : Ty := (.raw 1)
abbrev ty117 : Ty := (.raw 1)
abbrev ty118 : Ty := (.raw 1)
abbrev ty119 : Ty := (.raw 1)
abbrev ty120 : Ty := (.raw 1)
abbrev ty121 : Ty := (.raw 1)
abbrev ty122 : Ty := (.raw 1)
abbrev ty123 : Ty := (.raw 1)
abbrev ty124 : Ty := (.raw 1)
abbrev ty125 : Ty := (.raw 1)
abbrev ty127 : Ty := (.slice 4 ty4)
abbrev ty128 : Ty := (.agg (.pair .unit (.pair ty4 (.pair ty4 (.pair ty4 ty4)))))
abbrev ty129 : Ty := (.raw 1)
abbrev ty130 : Ty := (.raw 1)
abbrev ty131 : Ty := (.agg (.pair ty3 (.pair ty9 (.pair ty9 (.pair ty104 ty23)))))
abbrev ty132 : Ty := (.agg (.pair ty3 (.pair ty9 (.pair ty9 (.pair ty104 ty23)))))
abbrev ty133 : Ty := (.raw 1)
abbrev ty134 : Ty := (.raw 1)
abbrev ty135 : Ty := (.raw 1)
abbrev ty136 : Ty := (.slice 85 ty85)
abbrev ty137 : Ty := (.agg (.pair ty3 ty136))
abbrev ty138 : Ty := (.agg (.pair ty3 ty136))
abbrev ty139 : Ty := (.agg (.pair ty138 ty105))
abbrev ty140 : Ty := (.agg (.pair ty138 ty105))
abbrev ty141 : Ty := (.raw 1)
abbrev ty142 : Ty := (.raw 1)
abbrev ty143 : Ty := (.raw 1)
abbrev ty144 : Ty := (.raw 1)
abbrev ty145 : Ty := (.agg (.pair ty9 ty104))
abbrev ty146 : Ty := (.agg (.pair ty9 ty104))
abbrev ty147 : Ty := (.raw 1)
abbrev ty148 : Ty := (.raw 1)
abbrev ty149 : Ty := (.raw 1)
abbrev ty150 : Ty := (.agg (.pair ty9 ty138))
abbrev ty151 : Ty := (.agg (.pair ty9 ty138))
abbrev ty152 : Ty := (.raw 1)
abbrev ty153 : Ty := (.raw 1)
abbrev ty154 : Ty := (.raw 1)
abbrev ty155 : Ty := (.raw 1)
abbrev ty156 : Ty := (.raw 1)
abbrev ty157 : Ty := (.raw 1)
abbrev ty158 : Ty := (.raw 1)
abbrev ty159 : Ty := (.raw 1)
abbrev ty160 : Ty := (.raw 1)
abbrev ty161 : Ty := (.raw 1)
abbrev ty162 : Ty := (.raw 1)
abbrev ty163 : Ty := (.raw 1)
abbrev ty164 : Ty := (.raw 1)
abbrev ty165 : Ty := (.raw 1)
abbrev ty166 : Ty := (.raw 1)
abbrev ty172 : Ty := (.raw 1)
abbrev ty173 : Ty := (.int .u32)
abbrev ty176 : Ty := (.raw 1)
abbrev ty177 : Ty := (.raw 0)
abbrev ty182 : Ty := (.raw 1)
abbrev ty40 : Ty := (.slice 87 ty87)
abbrev ty46 : Ty := (.slice 90 ty90)
abbrev ty51 : Ty := (.slice 132 ty132)
abbrev ty59 : Ty := (.slice 140 ty140)
abbrev ty60 : Ty := (.agg (.pair ty40 ty59))
abbrev ty61 : Ty := (.agg (.pair ty40 ty59))
abbrev ty64 : Ty := (.slice 107 ty107)
abbrev ty65 : Ty := (.agg (.pair ty46 ty64))
abbrev ty66 : Ty := (.agg (.pair ty46 ty64))
abbrev ty70 : Ty := (.slice 146 ty146)
abbrev ty71 : Ty := (.agg (.pair ty9 (.pair ty3 ty70)))
abbrev ty72 : Ty := (.agg (.pair ty9 (.pair ty3 ty70)))
abbrev ty80 : Ty := (.slice 151 ty151)
abbrev ty81 : Ty := (.agg (.pair ty9 (.pair ty3 ty80)))
abbrev ty82 : Ty := (.agg (.pair ty9 (.pair ty3 ty80)))
abbrev ty126 : Ty := (.slice 127 ty127)
abbrev ty25 : Ty := (.slice 46 ty46)
abbrev ty39 : Ty := (.slice 82 ty82)
abbrev ty44 : Ty := (.slice 72 ty72)
abbrev ty52 : Ty := (.slice 66 ty66)
abbrev ty26 : Ty := (.slice 44 ty44)
abbrev ty27 : Ty := (.agg (.pair ty25 ty26))
abbrev ty28 : Ty := (.agg (.pair ty25 ty26))
abbrev ty53 : Ty := (.agg (.pair ty28 (.pair ty4 (.pair ty51 (.pair ty22 ty52)))))
abbrev ty54 : Ty := (.agg (.pair ty28 (.pair ty4 (.pair ty51 (.pair ty22 ty52)))))
def tys : Tys := [(1, ty1, 8), (2, ty2, 8), (3, ty3, 8), (4, ty4, 1), (5, ty5, 1), (9, ty9, 16), (12, ty12, 8), (20, ty20, 16), (21, ty21, 4), (22, ty22, 24), (23, ty23, 24), (24, ty24, 8), (30, ty30, 8), (31, ty31, 8), (32, ty32, 8), (33, ty33, 8), (34, ty34, 8), (35, ty35, 8), (36, ty36, 8), (37, ty37, 8), (38, ty38, 8), (41, ty41, 8), (42, ty42, 8), (43, ty43, 8), (45, ty45, 8), (47, ty47, 8), (48, ty48, 8), (49, ty49, 8), (50, ty50, 8), (55, ty55, 8), (56, ty56, 8), (57, ty57, 8), (58, ty58, 8), (62, ty62, 8), (63, ty63, 8), (67, ty67, 8), (68, ty68, 8), (69, ty69, 8), (73, ty73, 8), (74, ty74, 8), (75, ty75, 8), (76, ty76, 8), (77, ty77, 8), (78, ty78, 8), (79, ty79, 8), (83, ty83, 8), (84, ty84, 40), (85, ty85, 40), (86, ty86, 128), (87, ty87, 128), (88, ty88, 40), (89, ty89, 128), (90, ty90, 128), (91, ty91, 8), (92, ty92, 8), (93, ty93, 8), (94, ty94, 8), (96, ty96, 8), (97, ty97, 8), (98, ty98, 8), (99, ty99, 8), (100, ty100, 8), (101, ty101, 8), (102, ty102, 24), (103, ty103, 32), (104, ty104, 32), (105, ty105, 24), (106, ty106, 56), (107, ty107, 56), (108, ty108, 8), (109, ty109, 8), (110, ty110, 8), (111, ty111, 8), (112, ty112, 8), (113, ty113, 8), (114, ty114, 8), (115, ty115, 24), (116, ty116, 8), (117, ty117, 8), (118, ty118, 8), (119, ty119, 8), (120, ty120, 8), (121, ty121, 8), (122, ty122, 8), (123, ty123, 8), (124, ty124, 8), (125, ty125, 8), (127, ty127, 24), (128, ty128, 4), (129, ty129, 8), (130, ty130, 8), (131, ty131, 96), (132, ty132, 96), (133, ty133, 8), (134, ty134, 8), (135, ty135, 8), (136, ty136, 24), (137, ty137, 32), (138, ty138, 32), (139, ty139, 56), (140, ty140, 56), (141, ty141, 8), (142, ty142, 8), (143, ty143, 8), (144, ty144, 8), (145, ty145, 48), (146, ty146, 48), (147, ty147, 8), (148, ty148, 8), (149, ty149, 8), (150, ty150, 48), (151, ty151, 48), (152, ty152, 8), (153, ty153, 8), (154, ty154, 8), (155, ty155, 8), (156, ty156, 8), (157, ty157, 8), (158, ty158, 8), (159, ty159, 8), (160, ty160, 8), (161, ty161, 8), (162, ty162, 8), (163, ty163, 8), (164, ty164, 8), (165, ty165, 8), (166, ty166, 8), (172, ty172, 8), (173, ty173, 4), (176, ty176, 8), (177, ty177, 8), (182, ty182, 8), (40, ty40, 24), (46, ty46, 24), (51, ty51, 24), (59, ty59, 24), (60, ty60, 48), (61, ty61, 48), (64, ty64, 24), (65, ty65, 48), (66, ty66, 48), (70, ty70, 24), (71, ty71, 48), (72, ty72, 48), (80, ty80, 24), (81, ty81, 48), (82, ty82, 48), (126, ty126, 24), (25, ty25, 24), (39, ty39, 24), (44, ty44, 24), (52, ty52, 24), (26, ty26, 24), (27, ty27, 48), (28, ty28, 48), (53, ty53, 128), (54, ty54, 128)]
noncomputable abbrev C : Ctx := mkCtx tys
theorem mix : Try.prog.follows .mixedOrders = true := by kernel_rfl
theorem C_ok : CtxOk Try.prog C := ctx_ok (by kernel_rfl)
def tab0 : Tab := fun _ => none
theorem tab0_ok : TabOk Try.prog tab0 := fun _ _ h => by cases h
theorem tab_cons {tab : Tab} {f : FuncId} {F : Am.Fn} (h : TabOk Try.prog tab) (hF : FnOk Try.prog f F) : TabOk Try.prog (fun g => bif g == f then some F else tab g) := by
  intro g G hg
  dsimp only at hg
  cases hc : g == f with
  | true =>
    rw [hc] at hg
    simp only [cond_true, Option.some.injEq] at hg
    rw [beq_iff_eq] at hc
    subst hc hg
    exact hF
  | false =>
    rw [hc] at hg
    exact h g G hg
def fuel : Nat := 2000
theorem fuel_eq : fuel = 1999 + 1 := rfl
abbrev Rat := Int × Int
abbrev Atm := List Int × Int × Bool
abbrev Cel := Int × List Atm
abbrev Reg := Int × List Cel
abbrev Rw := ByteArray × Cel
abbrev Rel := ByteArray × Int × List Rw
abbrev Nod := Int × Atm × ByteArray × ByteArray × List Int × Int × Int × Int
abbrev Sup := Cel × List (List Int)
abbrev Viw := List Nod × List Sup
abbrev Opn := Int × ByteArray × ByteArray × Cel × List Int
abbrev Sto := List (List Nod) × List (List Rel)
noncomputable def Fw_szIntS : Am.Fn := mkFn C tab0 [0, 1, 2, 3] 12 (fun _ => none) ⟨fun _ _ => none, fun s => Nat.testBit 0 s, fun _ => []⟩ [(ty23, .ro), (ty3, .ro)] [(ty3, 0)] [.tmp 4] (Try.f83.body.getD .skip)
theorem Fw_szIntS_ok : FnOk Try.prog 83 Fw_szIntS := by
  unfold Fw_szIntS
  exact mkFn_ok (fn := Try.f83) mix C_ok tab0_ok Try.func83 (by kernel_rfl) (by kernel_rfl) (by kernel_rfl) (by kernel_rfl) (by decide)
noncomputable def tab_w_szIntS : Tab := fun f => bif f == 83 then some Fw_szIntS else tab0 f
theorem tab_w_szIntS_ok : TabOk Try.prog tab_w_szIntS := tab_cons tab0_ok Fw_szIntS_ok
noncomputable def Fw_szAtom : Am.Fn := mkFn C tab_w_szIntS [0, 1, 2, 3, 5] 12 (fun _ => none) ⟨fun _ _ => none, fun s => Nat.testBit 4 s, fun r => bif r == 2 then [6] else []⟩ [(ty85, .ro), (ty3, .ro)] [(ty3, 0)] [.tmp 4] (Try.f82.body.getD .skip)
theorem Fw_szAtom_ok : FnOk Try.prog 82 Fw_szAtom := by
  unfold Fw_szAtom
  exact mkFn_ok (fn := Try.f82) mix C_ok tab_w_szIntS_ok Try.func82 (by kernel_rfl) (by kernel_rfl) (by kernel_rfl) (by kernel_rfl) (by decide)
noncomputable def tab_w_szAtom : Tab := fun f => bif f == 82 then some Fw_szAtom else tab_w_szIntS f
theorem tab_w_szAtom_ok : TabOk Try.prog tab_w_szAtom := tab_cons tab_w_szIntS_ok Fw_szAtom_ok
noncomputable def Fw_szAtomS : Am.Fn := mkFn C tab_w_szAtom [0, 1, 2, 3, 5, 18, 20] 27 (fun k => bif k == 1000005 then some 35 else none) ⟨fun _ _ => none, fun s => Nat.testBit 0 s, fun _ => []⟩ [(ty136, .ro), (ty3, .ro)] [(ty3, 0)] [.tmp 4] (Try.f129.body.getD .skip)
theorem Fw_szAtomS_ok : FnOk Try.prog 129 Fw_szAtomS := by
  unfold Fw_szAtomS
  exact mkFn_ok (fn := Try.f129) mix C_ok tab_w_szAtom_ok Try.func129 (by kernel_rfl) (by kernel_rfl) (by kernel_rfl) (by kernel_rfl) (by decide)
noncomputable def tab_w_szAtomS : Tab := fun f => bif f == 129 then some Fw_szAtomS else tab_w_szAtom f
theorem tab_w_szAtomS_ok : TabOk Try.prog tab_w_szAtomS := tab_cons tab_w_szAtom_ok Fw_szAtomS_ok
noncomputable def Fw_szCell : Am.Fn := mkFn C tab_w_szAtomS [0, 1, 2, 3, 5] 12 (fun _ => none) ⟨fun _ _ => none, fun s => Nat.testBit 4 s, fun r => bif r == 2 then [6] else []⟩ [(ty138, .ro), (ty3, .ro)] [(ty3, 0)] [.tmp 4] (Try.f117.body.getD .skip)
theorem Fw_szCell_ok : FnOk Try.prog 117 Fw_szCell := by
  unfold Fw_szCell
  exact mkFn_ok (fn := Try.f117) mix C_ok tab_w_szAtomS_ok Try.func117 (by kernel_rfl) (by kernel_rfl) (by kernel_rfl) (by kernel_rfl) (by decide)
noncomputable def tab_w_szCell : Tab := fun f => bif f == 117 then some Fw_szCell else tab_w_szAtomS f
theorem tab_w_szCell_ok : TabOk Try.prog tab_w_szCell := tab_cons tab_w_szAtomS_ok Fw_szCell_ok
noncomputable def Fw_szRow : Am.Fn := mkFn C tab_w_szCell [0, 1, 2, 3, 6, 12] 19 (fun k => bif k == 1 then some 22 else none) ⟨fun _ _ => none, fun s => Nat.testBit 4 s, fun r => bif r == 2 then [13] else []⟩ [(ty151, .ro), (ty3, .ro)] [(ty3, 0)] [.tmp 4] (Try.f108.body.getD .skip)
theorem Fw_szRow_ok : FnOk Try.prog 108 Fw_szRow := by
  unfold Fw_szRow
  exact mkFn_ok (fn := Try.f108) mix C_ok tab_w_szCell_ok Try.func108 (by kernel_rfl) (by kernel_rfl) (by kernel_rfl) (by kernel_rfl) (by decide)
noncomputable def tab_w_szRow : Tab := fun f => bif f == 108 then some Fw_szRow else tab_w_szCell f
theorem tab_w_szRow_ok : TabOk Try.prog tab_w_szRow := tab_cons tab_w_szCell_ok Fw_szRow_ok
noncomputable def Fw_szRowS : Am.Fn := mkFn C tab_w_szRow [0, 1, 2, 3, 5, 18, 20] 27 (fun k => bif k == 1000005 then some 35 else none) ⟨fun _ _ => none, fun s => Nat.testBit 0 s, fun _ => []⟩ [(ty80, .ro), (ty3, .ro)] [(ty3, 0)] [.tmp 4] (Try.f81.body.getD .skip)
theorem Fw_szRowS_ok : FnOk Try.prog 81 Fw_szRowS := by
  unfold Fw_szRowS
  exact mkFn_ok (fn := Try.f81) mix C_ok tab_w_szRow_ok Try.func81 (by kernel_rfl) (by kernel_rfl) (by kernel_rfl) (by kernel_rfl) (by decide)
noncomputable def tab_w_szRowS : Tab := fun f => bif f == 81 then some Fw_szRowS else tab_w_szRow f
theorem tab_w_szRowS_ok : TabOk Try.prog tab_w_szRowS := tab_cons tab_w_szRow_ok Fw_szRowS_ok
noncomputable def Fw_szRelation : Am.Fn := mkFn C tab_w_szRowS [0, 1, 2, 3, 6, 12] 19 (fun k => bif k == 1 then some 22 else none) ⟨fun _ _ => none, fun s => Nat.testBit 4 s, fun r => bif r == 2 then [13] else []⟩ [(ty82, .ro), (ty3, .ro)] [(ty3, 0)] [.tmp 4] (Try.f49.body.getD .skip)
theorem Fw_szRelation_ok : FnOk Try.prog 49 Fw_szRelation := by
  unfold Fw_szRelation
  exact mkFn_ok (fn := Try.f49) mix C_ok tab_w_szRowS_ok Try.func49 (by kernel_rfl) (by kernel_rfl) (by kernel_rfl) (by kernel_rfl) (by decide)
noncomputable def tab_w_szRelation : Tab := fun f => bif f == 49 then some Fw_szRelation else tab_w_szRowS f
theorem tab_w_szRelation_ok : TabOk Try.prog tab_w_szRelation := tab_cons tab_w_szRowS_ok Fw_szRelation_ok
noncomputable def Fw_szRelationS : Am.Fn := mkFn C tab_w_szRelation [0, 1, 2, 3, 5, 18, 20] 27 (fun k => bif k == 1000005 then some 35 else none) ⟨fun _ _ => none, fun s => Nat.testBit 0 s, fun _ => []⟩ [(ty39, .ro), (ty3, .ro)] [(ty3, 0)] [.tmp 4] (Try.f20.body.getD .skip)
theorem Fw_szRelationS_ok : FnOk Try.prog 20 Fw_szRelationS := by
  unfold Fw_szRelationS
  exact mkFn_ok (fn := Try.f20) mix C_ok tab_w_szRelation_ok Try.func20 (by kernel_rfl) (by kernel_rfl) (by kernel_rfl) (by kernel_rfl) (by decide)
noncomputable def tab_w_szRelationS : Tab := fun f => bif f == 20 then some Fw_szRelationS else tab_w_szRelation f
theorem tab_w_szRelationS_ok : TabOk Try.prog tab_w_szRelationS := tab_cons tab_w_szRelation_ok Fw_szRelationS_ok
noncomputable def Fw_szNode : Am.Fn := mkFn C tab_w_szRelationS [0, 1, 2, 3, 5, 12, 19, 25] 32 (fun k => bif k == 4 then some 22 else bif k == 7 then some 22 else none) ⟨fun _ _ => none, fun s => Nat.testBit 4 s, fun r => bif r == 2 then [6, 26] else []⟩ [(ty87, .ro), (ty3, .ro)] [(ty3, 0)] [.tmp 4] (Try.f50.body.getD .skip)
theorem Fw_szNode_ok : FnOk Try.prog 50 Fw_szNode := by
  unfold Fw_szNode
  exact mkFn_ok (fn := Try.f50) mix C_ok tab_w_szRelationS_ok Try.func50 (by kernel_rfl) (by kernel_rfl) (by kernel_rfl) (by kernel_rfl) (by decide)
noncomputable def tab_w_szNode : Tab := fun f => bif f == 50 then some Fw_szNode else tab_w_szRelationS f
theorem tab_w_szNode_ok : TabOk Try.prog tab_w_szNode := tab_cons tab_w_szRelationS_ok Fw_szNode_ok
noncomputable def Fw_szNodeS : Am.Fn := mkFn C tab_w_szNode [0, 1, 2, 3, 5, 18, 20] 27 (fun k => bif k == 1000005 then some 35 else none) ⟨fun _ _ => none, fun s => Nat.testBit 0 s, fun _ => []⟩ [(ty40, .ro), (ty3, .ro)] [(ty3, 0)] [.tmp 4] (Try.f21.body.getD .skip)
theorem Fw_szNodeS_ok : FnOk Try.prog 21 Fw_szNodeS := by
  unfold Fw_szNodeS
  exact mkFn_ok (fn := Try.f21) mix C_ok tab_w_szNode_ok Try.func21 (by kernel_rfl) (by kernel_rfl) (by kernel_rfl) (by kernel_rfl) (by decide)
noncomputable def tab_w_szNodeS : Tab := fun f => bif f == 21 then some Fw_szNodeS else tab_w_szNode f
theorem tab_w_szNodeS_ok : TabOk Try.prog tab_w_szNodeS := tab_cons tab_w_szNode_ok Fw_szNodeS_ok
noncomputable def Fw_toIntS : Am.Fn := mkFn C tab_w_szNodeS [0, 1, 3, 4, 14, 16, 18] 22 (fun k => bif k == 1000003 then some 25 else none) ⟨fun _ _ => none, fun s => Nat.testBit 0 s, fun _ => []⟩ [(ty23, .ro)] [(ty23, 1)] [.tmp 2] (Try.f11.body.getD .skip)
theorem Fw_toIntS_ok : FnOk Try.prog 11 Fw_toIntS := by
  unfold Fw_toIntS
  exact mkFn_ok (fn := Try.f11) mix C_ok tab_w_szNodeS_ok Try.func11 (by kernel_rfl) (by kernel_rfl) (by kernel_rfl) (by kernel_rfl) (by decide)
noncomputable def tab_w_toIntS : Tab := fun f => bif f == 11 then some Fw_toIntS else tab_w_szNodeS f
theorem tab_w_toIntS_ok : TabOk Try.prog tab_w_toIntS := tab_cons tab_w_szNodeS_ok Fw_toIntS_ok
noncomputable def Fw_toAtom : Am.Fn := mkFn C tab_w_toIntS [0, 1, 2, 3, 4, 8, 11] 15 (fun k => bif k == 2 then some 14 else bif k == 3 then some 14 else bif k == 4 then some 14 else bif k == 5 then some 12 else none) ⟨fun _ _ => none, fun s => Nat.testBit 14 s, fun r => bif r == 1 then [5] else bif r == 2 then [] else bif r == 3 then [14] else []⟩ [(ty85, .ro)] [(ty88, 1)] [.cell 2 88] (Try.f86.body.getD .skip)
theorem Fw_toAtom_ok : FnOk Try.prog 86 Fw_toAtom := by
  unfold Fw_toAtom
  exact mkFn_ok (fn := Try.f86) mix C_ok tab_w_toIntS_ok Try.func86 (by kernel_rfl) (by kernel_rfl) (by kernel_rfl) (by kernel_rfl) (by decide)
noncomputable def tab_w_toAtom : Tab := fun f => bif f == 86 then some Fw_toAtom else tab_w_toIntS f
theorem tab_w_toAtom_ok : TabOk Try.prog tab_w_toAtom := tab_cons tab_w_toIntS_ok Fw_toAtom_ok
noncomputable def Fw_toAtomS : Am.Fn := mkFn C tab_w_toAtom [0, 1, 3, 4, 14, 16, 18] 23 (fun k => bif k == 1000003 then some 25 else none) ⟨fun _ _ => none, fun s => Nat.testBit 0 s, fun _ => []⟩ [(ty136, .ro)] [(ty102, 2)] [.tmp 2] (Try.f131.body.getD .skip)
theorem Fw_toAtomS_ok : FnOk Try.prog 131 Fw_toAtomS := by
  unfold Fw_toAtomS
  exact mkFn_ok (fn := Try.f131) mix C_ok tab_w_toAtom_ok Try.func131 (by kernel_rfl) (by kernel_rfl) (by kernel_rfl) (by kernel_rfl) (by decide)
noncomputable def tab_w_toAtomS : Tab := fun f => bif f == 131 then some Fw_toAtomS else tab_w_toAtom f
theorem tab_w_toAtomS_ok : TabOk Try.prog tab_w_toAtomS := tab_cons tab_w_toAtom_ok Fw_toAtomS_ok
noncomputable def Fw_toCell : Am.Fn := mkFn C tab_w_toAtomS [0, 1, 2, 3, 4, 7] 12 (fun k => bif k == 2 then some 14 else bif k == 3 then some 14 else bif k == 4 then some 12 else none) ⟨fun _ _ => none, fun s => Nat.testBit 14 s, fun r => bif r == 1 then [8] else bif r == 2 then [] else bif r == 3 then [11] else []⟩ [(ty138, .ro)] [(ty104, 2)] [.cell 2 104] (Try.f121.body.getD .skip)
theorem Fw_toCell_ok : FnOk Try.prog 121 Fw_toCell := by
  unfold Fw_toCell
  exact mkFn_ok (fn := Try.f121) mix C_ok tab_w_toAtomS_ok Try.func121 (by kernel_rfl) (by kernel_rfl) (by kernel_rfl) (by kernel_rfl) (by decide)
noncomputable def tab_w_toCell : Tab := fun f => bif f == 121 then some Fw_toCell else tab_w_toAtomS f
theorem tab_w_toCell_ok : TabOk Try.prog tab_w_toCell := tab_cons tab_w_toAtomS_ok Fw_toCell_ok
noncomputable def Fw_toRow : Am.Fn := mkFn C tab_w_toCell [0, 1, 2, 3, 4, 7] 12 (fun k => bif k == 2 then some 14 else bif k == 3 then some 14 else bif k == 4 then some 12 else none) ⟨fun _ _ => none, fun s => Nat.testBit 14 s, fun r => bif r == 1 then [8] else bif r == 2 then [] else bif r == 3 then [11] else []⟩ [(ty151, .ro)] [(ty146, 2)] [.cell 2 146] (Try.f110.body.getD .skip)
theorem Fw_toRow_ok : FnOk Try.prog 110 Fw_toRow := by
  unfold Fw_toRow
  exact mkFn_ok (fn := Try.f110) mix C_ok tab_w_toCell_ok Try.func110 (by kernel_rfl) (by kernel_rfl) (by kernel_rfl) (by kernel_rfl) (by decide)
noncomputable def tab_w_toRow : Tab := fun f => bif f == 110 then some Fw_toRow else tab_w_toCell f
theorem tab_w_toRow_ok : TabOk Try.prog tab_w_toRow := tab_cons tab_w_toCell_ok Fw_toRow_ok
noncomputable def Fw_toRowS : Am.Fn := mkFn C tab_w_toRow [0, 1, 3, 4, 14, 16, 18] 23 (fun k => bif k == 1000003 then some 25 else none) ⟨fun _ _ => none, fun s => Nat.testBit 0 s, fun _ => []⟩ [(ty80, .ro)] [(ty70, 3)] [.tmp 2] (Try.f85.body.getD .skip)
theorem Fw_toRowS_ok : FnOk Try.prog 85 Fw_toRowS := by
  unfold Fw_toRowS
  exact mkFn_ok (fn := Try.f85) mix C_ok tab_w_toRow_ok Try.func85 (by kernel_rfl) (by kernel_rfl) (by kernel_rfl) (by kernel_rfl) (by decide)
noncomputable def tab_w_toRowS : Tab := fun f => bif f == 85 then some Fw_toRowS else tab_w_toRow f
theorem tab_w_toRowS_ok : TabOk Try.prog tab_w_toRowS := tab_cons tab_w_toRow_ok Fw_toRowS_ok
noncomputable def Fw_toRelation : Am.Fn := mkFn C tab_w_toRowS [0, 1, 2, 3, 4, 7, 10] 15 (fun k => bif k == 2 then some 14 else bif k == 3 then some 14 else bif k == 4 then some 14 else bif k == 5 then some 12 else none) ⟨fun _ _ => none, fun s => Nat.testBit 14 s, fun r => bif r == 1 then [11] else bif r == 2 then [] else bif r == 3 then [14] else []⟩ [(ty82, .ro)] [(ty72, 3)] [.cell 2 72] (Try.f52.body.getD .skip)
theorem Fw_toRelation_ok : FnOk Try.prog 52 Fw_toRelation := by
  unfold Fw_toRelation
  exact mkFn_ok (fn := Try.f52) mix C_ok tab_w_toRowS_ok Try.func52 (by kernel_rfl) (by kernel_rfl) (by kernel_rfl) (by kernel_rfl) (by decide)
noncomputable def tab_w_toRelation : Tab := fun f => bif f == 52 then some Fw_toRelation else tab_w_toRowS f
theorem tab_w_toRelation_ok : TabOk Try.prog tab_w_toRelation := tab_cons tab_w_toRowS_ok Fw_toRelation_ok
noncomputable def Fw_toRelationS : Am.Fn := mkFn C tab_w_toRelation [0, 1, 3, 4, 14, 16, 18] 23 (fun k => bif k == 1000003 then some 25 else none) ⟨fun _ _ => none, fun s => Nat.testBit 0 s, fun _ => []⟩ [(ty39, .ro)] [(ty44, 4)] [.tmp 2] (Try.f23.body.getD .skip)
theorem Fw_toRelationS_ok : FnOk Try.prog 23 Fw_toRelationS := by
  unfold Fw_toRelationS
  exact mkFn_ok (fn := Try.f23) mix C_ok tab_w_toRelation_ok Try.func23 (by kernel_rfl) (by kernel_rfl) (by kernel_rfl) (by kernel_rfl) (by decide)
noncomputable def tab_w_toRelationS : Tab := fun f => bif f == 23 then some Fw_toRelationS else tab_w_toRelation f
theorem tab_w_toRelationS_ok : TabOk Try.prog tab_w_toRelationS := tab_cons tab_w_toRelation_ok Fw_toRelationS_ok
noncomputable def Fw_toNode : Am.Fn := mkFn C tab_w_toRelationS [0, 1, 2, 3, 4, 7, 11, 14, 17, 21, 24, 27] 31 (fun k => bif k == 2 then some 14 else bif k == 3 then some 14 else bif k == 4 then some 14 else bif k == 5 then some 14 else bif k == 6 then some 14 else bif k == 7 then some 14 else bif k == 8 then some 14 else bif k == 9 then some 14 else bif k == 10 then some 12 else none) ⟨fun _ _ => none, fun s => Nat.testBit 14 s, fun r => bif r == 1 then [8, 18] else bif r == 2 then [] else bif r == 3 then [30] else []⟩ [(ty87, .ro)] [(ty90, 1)] [.cell 2 90] (Try.f53.body.getD .skip)
theorem Fw_toNode_ok : FnOk Try.prog 53 Fw_toNode := by
  unfold Fw_toNode
  exact mkFn_ok (fn := Try.f53) mix C_ok tab_w_toRelationS_ok Try.func53 (by kernel_rfl) (by kernel_rfl) (by kernel_rfl) (by kernel_rfl) (by decide)
noncomputable def tab_w_toNode : Tab := fun f => bif f == 53 then some Fw_toNode else tab_w_toRelationS f
theorem tab_w_toNode_ok : TabOk Try.prog tab_w_toNode := tab_cons tab_w_toRelationS_ok Fw_toNode_ok
noncomputable def Fw_toNodeS : Am.Fn := mkFn C tab_w_toNode [0, 1, 3, 4, 14, 16, 18] 23 (fun k => bif k == 1000003 then some 25 else none) ⟨fun _ _ => none, fun s => Nat.testBit 0 s, fun _ => []⟩ [(ty40, .ro)] [(ty46, 2)] [.tmp 2] (Try.f24.body.getD .skip)
theorem Fw_toNodeS_ok : FnOk Try.prog 24 Fw_toNodeS := by
  unfold Fw_toNodeS
  exact mkFn_ok (fn := Try.f24) mix C_ok tab_w_toNode_ok Try.func24 (by kernel_rfl) (by kernel_rfl) (by kernel_rfl) (by kernel_rfl) (by decide)
noncomputable def tab_w_toNodeS : Tab := fun f => bif f == 24 then some Fw_toNodeS else tab_w_toNode f
theorem tab_w_toNodeS_ok : TabOk Try.prog tab_w_toNodeS := tab_cons tab_w_toNode_ok Fw_toNodeS_ok
noncomputable def Fs_l1In : Am.Fn := mkFn C tab_w_toNodeS [0, 1, 2, 3, 4, 5] 15 (fun _ => none) ⟨fun _ _ => none, fun s => Nat.testBit 0 s, fun _ => []⟩ [(ty3, .ro), (ty3, .ro), (ty3, .ro)] [(ty4, 0)] [.tmp 6] (Try.f68.body.getD .skip)
theorem Fs_l1In_ok : FnOk Try.prog 68 Fs_l1In := by
  unfold Fs_l1In
  exact mkFn_ok (fn := Try.f68) mix C_ok tab_w_toNodeS_ok Try.func68 (by kernel_rfl) (by kernel_rfl) (by kernel_rfl) (by kernel_rfl) (by decide)
noncomputable def tab_s_l1In : Tab := fun f => bif f == 68 then some Fs_l1In else tab_w_toNodeS f
theorem tab_s_l1In_ok : TabOk Try.prog tab_s_l1In := tab_cons tab_w_toNodeS_ok Fs_l1In_ok
noncomputable def Fs_l5Word : Am.Fn := mkFn C tab_s_l1In [0, 1, 2, 3, 4, 5, 7] 29 (fun k => bif k == 1000002 then some 135 else none) ⟨fun _ _ => none, fun s => Nat.testBit 0 s, fun _ => []⟩ [(ty9, .ro), (ty5, .ro), (ty5, .ro)] [(ty4, 0)] [.tmp 6] (Try.f103.body.getD .skip)
theorem Fs_l5Word_ok : FnOk Try.prog 103 Fs_l5Word := by
  unfold Fs_l5Word
  exact mkFn_ok (fn := Try.f103) mix C_ok tab_s_l1In_ok Try.func103 (by kernel_rfl) (by kernel_rfl) (by kernel_rfl) (by kernel_rfl) (by decide)
noncomputable def tab_s_l5Word : Tab := fun f => bif f == 103 then some Fs_l5Word else tab_s_l1In f
theorem tab_s_l5Word_ok : TabOk Try.prog tab_s_l5Word := tab_cons tab_s_l1In_ok Fs_l5Word_ok
noncomputable def Fs_IsNumber : Am.Fn := mkFn C tab_s_l5Word [0, 1] 5 (fun _ => none) ⟨fun _ _ => none, fun s => Nat.testBit 0 s, fun _ => []⟩ [(ty3, .ro)] [(ty4, 0)] [.tmp 2] (Try.f119.body.getD .skip)
theorem Fs_IsNumber_ok : FnOk Try.prog 119 Fs_IsNumber := by
  unfold Fs_IsNumber
  exact mkFn_ok (fn := Try.f119) mix C_ok tab_s_l5Word_ok Try.func119 (by kernel_rfl) (by kernel_rfl) (by kernel_rfl) (by kernel_rfl) (by decide)
noncomputable def tab_s_IsNumber : Tab := fun f => bif f == 119 then some Fs_IsNumber else tab_s_l5Word f
theorem tab_s_IsNumber_ok : TabOk Try.prog tab_s_IsNumber := tab_cons tab_s_l5Word_ok Fs_IsNumber_ok
noncomputable def Fs_l1Abs : Am.Fn := mkFn C tab_s_IsNumber [0, 1] 7 (fun _ => none) ⟨fun _ _ => none, fun s => Nat.testBit 0 s, fun _ => []⟩ [(ty3, .ro)] [(ty3, 0)] [.tmp 2] (Try.f130.body.getD .skip)
theorem Fs_l1Abs_ok : FnOk Try.prog 130 Fs_l1Abs := by
  unfold Fs_l1Abs
  exact mkFn_ok (fn := Try.f130) mix C_ok tab_s_IsNumber_ok Try.func130 (by kernel_rfl) (by kernel_rfl) (by kernel_rfl) (by kernel_rfl) (by decide)
noncomputable def tab_s_l1Abs : Tab := fun f => bif f == 130 then some Fs_l1Abs else tab_s_IsNumber f
theorem tab_s_l1Abs_ok : TabOk Try.prog tab_s_l1Abs := tab_cons tab_s_IsNumber_ok Fs_l1Abs_ok
noncomputable def Fs_l2Gcd : Am.Fn := mkFn C tab_s_l1Abs [0, 1, 2, 3, 5, 6, 7, 16, 18] 28 (fun k => bif k == 1000003 then some 97 else bif k == 1000006 then some 225 else none) ⟨fun _ _ => none, fun s => Nat.testBit 0 s, fun _ => []⟩ [(ty23, .ro), (ty3, .ro)] [(ty3, 0)] [.tmp 4] (Try.f120.body.getD .skip)
theorem Fs_l2Gcd_ok : FnOk Try.prog 120 Fs_l2Gcd := by
  unfold Fs_l2Gcd
  exact mkFn_ok (fn := Try.f120) mix C_ok tab_s_l1Abs_ok Try.func120 (by kernel_rfl) (by kernel_rfl) (by kernel_rfl) (by kernel_rfl) (by decide)
noncomputable def tab_s_l2Gcd : Tab := fun f => bif f == 120 then some Fs_l2Gcd else tab_s_l1Abs f
theorem tab_s_l2Gcd_ok : TabOk Try.prog tab_s_l2Gcd := tab_cons tab_s_l1Abs_ok Fs_l2Gcd_ok
noncomputable def Fs_IsAtom : Am.Fn := mkFn C tab_s_l2Gcd [0, 1, 3, 4, 9, 15, 21, 22, 24, 28, 30] 34 (fun k => bif k == 1 then some 6 else bif k == 4 then some 14 else bif k == 1000004 then some 10 else none) ⟨fun _ _ => none, fun s => Nat.testBit 2 s, fun r => bif r == 1 then [5, 16, 22, 24, 29] else []⟩ [(ty88, .ro)] [(ty4, 0)] [.tmp 2] (Try.f99.body.getD .skip)
theorem Fs_IsAtom_ok : FnOk Try.prog 99 Fs_IsAtom := by
  unfold Fs_IsAtom
  exact mkFn_ok (fn := Try.f99) mix C_ok tab_s_l2Gcd_ok Try.func99 (by kernel_rfl) (by kernel_rfl) (by kernel_rfl) (by kernel_rfl) (by decide)
noncomputable def tab_s_IsAtom : Tab := fun f => bif f == 99 then some Fs_IsAtom else tab_s_l2Gcd f
theorem tab_s_IsAtom_ok : TabOk Try.prog tab_s_IsAtom := tab_cons tab_s_l2Gcd_ok Fs_IsAtom_ok
noncomputable def Fs_IsCell : Am.Fn := mkFn C tab_s_IsAtom [0, 1, 3, 5, 11, 12, 14, 19, 20, 22, 23, 26, 30, 34] 39 (fun k => bif k == 2 then some 14 else bif k == 4 then some 14 else bif k == 6 then some 6 else bif k == 1000002 then some 10 else none) ⟨fun _ _ => none, fun s => Nat.testBit 2 s, fun r => bif r == 1 then [6, 12, 14, 15, 20, 22, 23, 24, 35] else []⟩ [(ty104, .ro)] [(ty4, 0)] [.tmp 2] (Try.f67.body.getD .skip)
theorem Fs_IsCell_ok : FnOk Try.prog 67 Fs_IsCell := by
  unfold Fs_IsCell
  exact mkFn_ok (fn := Try.f67) mix C_ok tab_s_IsAtom_ok Try.func67 (by kernel_rfl) (by kernel_rfl) (by kernel_rfl) (by kernel_rfl) (by decide)
noncomputable def tab_s_IsCell : Tab := fun f => bif f == 67 then some Fs_IsCell else tab_s_IsAtom f
theorem tab_s_IsCell_ok : TabOk Try.prog tab_s_IsCell := tab_cons tab_s_IsAtom_ok Fs_IsCell_ok
noncomputable def Fs_IsRelation : Am.Fn := mkFn C tab_s_IsCell [0, 1, 3, 5, 11, 12, 14, 15, 20, 21, 23, 24, 30, 31, 33, 34, 35, 37, 41, 45, 50] 55 (fun k => bif k == 2 then some 14 else bif k == 6 then some 6 else bif k == 1000002 then some 10 else none) ⟨fun _ _ => none, fun s => Nat.testBit 2 s, fun r => bif r == 1 then [6, 12, 14, 15, 21, 23, 24, 25, 31, 33, 34, 35, 51] else []⟩ [(ty72, .ro)] [(ty4, 0)] [.tmp 2] (Try.f73.body.getD .skip)
theorem Fs_IsRelation_ok : FnOk Try.prog 73 Fs_IsRelation := by
  unfold Fs_IsRelation
  exact mkFn_ok (fn := Try.f73) mix C_ok tab_s_IsCell_ok Try.func73 (by kernel_rfl) (by kernel_rfl) (by kernel_rfl) (by kernel_rfl) (by decide)
noncomputable def tab_s_IsRelation : Tab := fun f => bif f == 73 then some Fs_IsRelation else tab_s_IsCell f
theorem tab_s_IsRelation_ok : TabOk Try.prog tab_s_IsRelation := tab_cons tab_s_IsCell_ok Fs_IsRelation_ok
noncomputable def Fs_FindRelation : Am.Fn := mkFn C tab_s_IsRelation [0, 1, 2, 3, 5, 12, 14, 15] 20 (fun k => bif k == 1000002 then some 35 else none) ⟨fun _ _ => none, fun s => Nat.testBit 0 s, fun _ => []⟩ [(ty44, .ro), (ty9, .ro)] [(ty3, 0)] [.tmp 4] (Try.f74.body.getD .skip)
theorem Fs_FindRelation_ok : FnOk Try.prog 74 Fs_FindRelation := by
  unfold Fs_FindRelation
  exact mkFn_ok (fn := Try.f74) mix C_ok tab_s_IsRelation_ok Try.func74 (by kernel_rfl) (by kernel_rfl) (by kernel_rfl) (by kernel_rfl) (by decide)
noncomputable def tab_s_FindRelation : Tab := fun f => bif f == 74 then some Fs_FindRelation else tab_s_IsRelation f
theorem tab_s_FindRelation_ok : TabOk Try.prog tab_s_FindRelation := tab_cons tab_s_IsRelation_ok Fs_FindRelation_ok
noncomputable def Fs_IsDatabase : Am.Fn := mkFn C tab_s_FindRelation [0, 1, 3, 10, 12, 17, 20, 22, 23] 31 (fun k => bif k == 1000002 then some 9 else none) ⟨fun _ _ => none, fun s => Nat.testBit 0 s, fun _ => []⟩ [(ty44, .ro)] [(ty4, 0)] [.tmp 2] (Try.f40.body.getD .skip)
theorem Fs_IsDatabase_ok : FnOk Try.prog 40 Fs_IsDatabase := by
  unfold Fs_IsDatabase
  exact mkFn_ok (fn := Try.f40) mix C_ok tab_s_FindRelation_ok Try.func40 (by kernel_rfl) (by kernel_rfl) (by kernel_rfl) (by kernel_rfl) (by decide)
noncomputable def tab_s_IsDatabase : Tab := fun f => bif f == 40 then some Fs_IsDatabase else tab_s_FindRelation f
theorem tab_s_IsDatabase_ok : TabOk Try.prog tab_s_IsDatabase := tab_cons tab_s_FindRelation_ok Fs_IsDatabase_ok
noncomputable def Fs_l5NoAtom : Am.Fn := mkFn C tab_s_IsDatabase [0, 1, 3, 8, 13] 17 (fun k => bif k == 1 then some 6 else none) ⟨fun _ _ => none, fun s => Nat.testBit 2 s, fun r => bif r == 1 then [4] else []⟩ [(ty88, .ro)] [(ty4, 0)] [.tmp 2] (Try.f109.body.getD .skip)
theorem Fs_l5NoAtom_ok : FnOk Try.prog 109 Fs_l5NoAtom := by
  unfold Fs_l5NoAtom
  exact mkFn_ok (fn := Try.f109) mix C_ok tab_s_IsDatabase_ok Try.func109 (by kernel_rfl) (by kernel_rfl) (by kernel_rfl) (by kernel_rfl) (by decide)
noncomputable def tab_s_l5NoAtom : Tab := fun f => bif f == 109 then some Fs_l5NoAtom else tab_s_IsDatabase f
theorem tab_s_l5NoAtom_ok : TabOk Try.prog tab_s_l5NoAtom := tab_cons tab_s_IsDatabase_ok Fs_l5NoAtom_ok
noncomputable def Fs_l5Node : Am.Fn := mkFn C tab_s_l5NoAtom [0, 1, 2, 3, 5, 6, 7, 11, 17, 21, 25, 30, 37, 41, 46, 51, 55, 60, 66, 70, 75, 79, 83, 84, 92, 96, 102, 103, 105, 112, 114, 115, 117, 123, 127, 132, 136] 140 (fun k => bif k == 1 then some 25 else bif k == 7 then some 24 else bif k == 11 then some 121 else bif k == 15 then some 57 else bif k == 1000011 then some 105 else bif k == 2000003 then some 9 else bif k == 2000005 then some 9 else none) ⟨fun _ _ => none, fun s => Nat.testBit 8 s, fun r => bif r == 3 then [12, 31, 80, 85, 97, 103, 105, 118] else []⟩ [(ty44, .ro), (ty90, .ro)] [(ty4, 0)] [.tmp 4] (Try.f84.body.getD .skip)
theorem Fs_l5Node_ok : FnOk Try.prog 84 Fs_l5Node := by
  unfold Fs_l5Node
  exact mkFn_ok (fn := Try.f84) mix C_ok tab_s_l5NoAtom_ok Try.func84 (by kernel_rfl) (by kernel_rfl) (by kernel_rfl) (by kernel_rfl) (by decide)
noncomputable def tab_s_l5Node : Tab := fun f => bif f == 84 then some Fs_l5Node else tab_s_l5NoAtom f
theorem tab_s_l5Node_ok : TabOk Try.prog tab_s_l5Node := tab_cons tab_s_l5NoAtom_ok Fs_l5Node_ok
noncomputable def Fs_IsFormula : Am.Fn := mkFn C tab_s_l5Node [0, 1, 2, 3, 5, 6, 7, 8, 26, 28, 32, 34, 35, 39, 41, 42, 46, 48, 49, 61, 64, 66, 68, 69, 78, 81, 83, 85, 86, 90, 93, 95, 97, 98, 105] 117 (fun k => bif k == 1000005 then some 99 else bif k == 2000014 then some 227 else bif k == 2000017 then some 483 else none) ⟨fun _ _ => none, fun s => Nat.testBit 0 s, fun _ => []⟩ [(ty44, .ro), (ty46, .ro)] [(ty4, 0)] [.tmp 4] (Try.f51.body.getD .skip)
theorem Fs_IsFormula_ok : FnOk Try.prog 51 Fs_IsFormula := by
  unfold Fs_IsFormula
  exact mkFn_ok (fn := Try.f51) mix C_ok tab_s_l5Node_ok Try.func51 (by kernel_rfl) (by kernel_rfl) (by kernel_rfl) (by kernel_rfl) (by decide)
noncomputable def tab_s_IsFormula : Tab := fun f => bif f == 51 then some Fs_IsFormula else tab_s_l5Node f
theorem tab_s_IsFormula_ok : TabOk Try.prog tab_s_IsFormula := tab_cons tab_s_l5Node_ok Fs_IsFormula_ok
noncomputable def Fs_FreeOf : Am.Fn := mkFn C tab_s_IsFormula [0, 1, 2, 3, 6, 7, 8, 9, 10, 11, 12, 13, 14, 30, 32, 33, 39, 41, 42, 44, 45, 47, 48, 50, 53, 55, 56, 61, 63, 64, 76, 78, 80, 81, 82, 83, 85, 92, 94, 95, 101, 102, 104, 105, 106, 108, 118, 120, 121, 123, 124, 126, 127, 129, 132, 133, 135, 136, 138, 139, 141, 145, 154, 158, 159, 161] 168 (fun k => bif k == 1000005 then some 194 else bif k == 1000010 then some 4546 else bif k == 1000015 then some 962 else bif k == 1000020 then some 1474 else bif k == 1000026 then some 2498 else bif k == 1000032 then some 24642 else none) ⟨fun _ _ => none, fun s => Nat.testBit 0 s, fun _ => []⟩ [(ty44, .ro), (ty46, .ro)] [(ty23, 1), (ty4, 0)] [.tmp 4, .tmp 5] (Try.f57.body.getD .skip)
theorem Fs_FreeOf_ok : FnOk Try.prog 57 Fs_FreeOf := by
  unfold Fs_FreeOf
  exact mkFn_ok (fn := Try.f57) mix C_ok tab_s_IsFormula_ok Try.func57 (by kernel_rfl) (by kernel_rfl) (by kernel_rfl) (by kernel_rfl) (by decide)
noncomputable def tab_s_FreeOf : Tab := fun f => bif f == 57 then some Fs_FreeOf else tab_s_IsFormula f
theorem tab_s_FreeOf_ok : TabOk Try.prog tab_s_FreeOf := tab_cons tab_s_IsFormula_ok Fs_FreeOf_ok
noncomputable def Fs_IsRule : Am.Fn := mkFn C tab_s_FreeOf [0, 1, 2, 3, 5, 6, 7] 19 (fun _ => none) ⟨fun d i => bif d == 7 then (bif i == 0 then some 11 else bif i == 1 then some 12 else none) else none, fun s => Nat.testBit 0 s, fun _ => []⟩ [(ty44, .ro), (ty46, .ro)] [(ty4, 0)] [.tmp 4] (Try.f28.body.getD .skip)
theorem Fs_IsRule_ok : FnOk Try.prog 28 Fs_IsRule := by
  unfold Fs_IsRule
  exact mkFn_ok (fn := Try.f28) mix C_ok tab_s_FreeOf_ok Try.func28 (by kernel_rfl) (by kernel_rfl) (by kernel_rfl) (by kernel_rfl) (by decide)
noncomputable def tab_s_IsRule : Tab := fun f => bif f == 28 then some Fs_IsRule else tab_s_FreeOf f
theorem tab_s_IsRule_ok : TabOk Try.prog tab_s_IsRule := tab_cons tab_s_FreeOf_ok Fs_IsRule_ok
noncomputable def Fi_isWord : Am.Fn := mkFn C tab_s_IsRule [0, 1, 2, 3, 4, 5, 7] 34 (fun k => bif k == 1000004 then some 135 else none) ⟨fun _ _ => none, fun s => Nat.testBit 0 s, fun _ => []⟩ [(ty9, .ro), (ty5, .ro), (ty5, .ro)] [(ty4, 0)] [.tmp 6] (Try.f127.body.getD .skip)
theorem Fi_isWord_ok : FnOk Try.prog 127 Fi_isWord := by
  unfold Fi_isWord
  exact mkFn_ok (fn := Try.f127) mix C_ok tab_s_IsRule_ok Try.func127 (by kernel_rfl) (by kernel_rfl) (by kernel_rfl) (by kernel_rfl) (by decide)
noncomputable def tab_i_isWord : Tab := fun f => bif f == 127 then some Fi_isWord else tab_s_IsRule f
theorem tab_i_isWord_ok : TabOk Try.prog tab_i_isWord := tab_cons tab_s_IsRule_ok Fi_isWord_ok
noncomputable def Fi_isName : Am.Fn := mkFn C tab_i_isWord [0, 1] 5 (fun _ => none) ⟨fun _ _ => none, fun s => Nat.testBit 0 s, fun _ => []⟩ [(ty9, .ro)] [(ty4, 0)] [.tmp 2] (Try.f104.body.getD .skip)
theorem Fi_isName_ok : FnOk Try.prog 104 Fi_isName := by
  unfold Fi_isName
  exact mkFn_ok (fn := Try.f104) mix C_ok tab_i_isWord_ok Try.func104 (by kernel_rfl) (by kernel_rfl) (by kernel_rfl) (by kernel_rfl) (by decide)
noncomputable def tab_i_isName : Tab := fun f => bif f == 104 then some Fi_isName else tab_i_isWord f
theorem tab_i_isName_ok : TabOk Try.prog tab_i_isName := tab_cons tab_i_isWord_ok Fi_isName_ok
noncomputable def Fi_isLabel : Am.Fn := mkFn C tab_i_isName [0, 1] 5 (fun _ => none) ⟨fun _ _ => none, fun s => Nat.testBit 0 s, fun _ => []⟩ [(ty9, .ro)] [(ty4, 0)] [.tmp 2] (Try.f105.body.getD .skip)
theorem Fi_isLabel_ok : FnOk Try.prog 105 Fi_isLabel := by
  unfold Fi_isLabel
  exact mkFn_ok (fn := Try.f105) mix C_ok tab_i_isName_ok Try.func105 (by kernel_rfl) (by kernel_rfl) (by kernel_rfl) (by kernel_rfl) (by decide)
noncomputable def tab_i_isLabel : Tab := fun f => bif f == 105 then some Fi_isLabel else tab_i_isName f
theorem tab_i_isLabel_ok : TabOk Try.prog tab_i_isLabel := tab_cons tab_i_isName_ok Fi_isLabel_ok
noncomputable def Fi_IsNumber : Am.Fn := mkFn C tab_i_isLabel [0, 1] 9 (fun _ => none) ⟨fun _ _ => none, fun s => Nat.testBit 0 s, fun _ => []⟩ [(ty3, .ro)] [(ty4, 0)] [.tmp 2] (Try.f123.body.getD .skip)
theorem Fi_IsNumber_ok : FnOk Try.prog 123 Fi_IsNumber := by
  unfold Fi_IsNumber
  exact mkFn_ok (fn := Try.f123) mix C_ok tab_i_isLabel_ok Try.func123 (by kernel_rfl) (by kernel_rfl) (by kernel_rfl) (by kernel_rfl) (by decide)
noncomputable def tab_i_IsNumber : Tab := fun f => bif f == 123 then some Fi_IsNumber else tab_i_isLabel f
theorem tab_i_IsNumber_ok : TabOk Try.prog tab_i_IsNumber := tab_cons tab_i_isLabel_ok Fi_IsNumber_ok
noncomputable def Fi_absolute : Am.Fn := mkFn C tab_i_IsNumber [0, 1] 8 (fun _ => none) ⟨fun _ _ => none, fun s => Nat.testBit 0 s, fun _ => []⟩ [(ty3, .ro)] [(ty3, 0)] [.tmp 2] (Try.f132.body.getD .skip)
theorem Fi_absolute_ok : FnOk Try.prog 132 Fi_absolute := by
  unfold Fi_absolute
  exact mkFn_ok (fn := Try.f132) mix C_ok tab_i_IsNumber_ok Try.func132 (by kernel_rfl) (by kernel_rfl) (by kernel_rfl) (by kernel_rfl) (by decide)
noncomputable def tab_i_absolute : Tab := fun f => bif f == 132 then some Fi_absolute else tab_i_IsNumber f
theorem tab_i_absolute_ok : TabOk Try.prog tab_i_absolute := tab_cons tab_i_IsNumber_ok Fi_absolute_ok
noncomputable def Fi_commonDivisor : Am.Fn := mkFn C tab_i_absolute [0, 1, 2, 3] 16 (fun k => bif k == 1000002 then some 3 else none) ⟨fun _ _ => none, fun s => Nat.testBit 0 s, fun _ => []⟩ [(ty3, .ro), (ty3, .ro)] [(ty3, 0)] [.tmp 4] (Try.f124.body.getD .skip)
theorem Fi_commonDivisor_ok : FnOk Try.prog 124 Fi_commonDivisor := by
  unfold Fi_commonDivisor
  exact mkFn_ok (fn := Try.f124) mix C_ok tab_i_absolute_ok Try.func124 (by kernel_rfl) (by kernel_rfl) (by kernel_rfl) (by kernel_rfl) (by decide)
noncomputable def tab_i_commonDivisor : Tab := fun f => bif f == 124 then some Fi_commonDivisor else tab_i_absolute f
theorem tab_i_commonDivisor_ok : TabOk Try.prog tab_i_commonDivisor := tab_cons tab_i_absolute_ok Fi_commonDivisor_ok
noncomputable def Fi_divisorOf : Am.Fn := mkFn C tab_i_commonDivisor [0, 1, 3, 4, 5, 6, 10] 17 (fun k => bif k == 1000003 then some 457 else none) ⟨fun _ _ => none, fun s => Nat.testBit 0 s, fun _ => []⟩ [(ty23, .ro)] [(ty3, 0)] [.tmp 2] (Try.f125.body.getD .skip)
theorem Fi_divisorOf_ok : FnOk Try.prog 125 Fi_divisorOf := by
  unfold Fi_divisorOf
  exact mkFn_ok (fn := Try.f125) mix C_ok tab_i_commonDivisor_ok Try.func125 (by kernel_rfl) (by kernel_rfl) (by kernel_rfl) (by kernel_rfl) (by decide)
noncomputable def tab_i_divisorOf : Tab := fun f => bif f == 125 then some Fi_divisorOf else tab_i_commonDivisor f
theorem tab_i_divisorOf_ok : TabOk Try.prog tab_i_divisorOf := tab_cons tab_i_commonDivisor_ok Fi_divisorOf_ok
noncomputable def Fi_IsAtom : Am.Fn := mkFn C tab_i_divisorOf [0, 1, 3, 4, 5, 10, 15, 16, 20, 26, 29] 33 (fun k => bif k == 1 then some 6 else bif k == 3 then some 6 else bif k == 1000004 then some 491522 else none) ⟨fun _ _ => none, fun s => Nat.testBit 2 s, fun r => bif r == 1 then [6, 16, 20, 27] else []⟩ [(ty88, .ro)] [(ty4, 0)] [.tmp 2] (Try.f101.body.getD .skip)
theorem Fi_IsAtom_ok : FnOk Try.prog 101 Fi_IsAtom := by
  unfold Fi_IsAtom
  exact mkFn_ok (fn := Try.f101) mix C_ok tab_i_divisorOf_ok Try.func101 (by kernel_rfl) (by kernel_rfl) (by kernel_rfl) (by kernel_rfl) (by decide)
noncomputable def tab_i_IsAtom : Tab := fun f => bif f == 101 then some Fi_IsAtom else tab_i_divisorOf f
theorem tab_i_IsAtom_ok : TabOk Try.prog tab_i_IsAtom := tab_cons tab_i_divisorOf_ok Fi_IsAtom_ok
noncomputable def Fi_IsCell : Am.Fn := mkFn C tab_i_IsAtom [0, 1, 3, 4, 5, 9, 14, 19, 20, 24, 30, 33] 38 (fun k => bif k == 1 then some 6 else bif k == 3 then some 6 else bif k == 5 then some 7864326 else bif k == 6 then some 7864342 else bif k == 1000004 then some 7864322 else none) ⟨fun _ _ => none, fun s => Nat.testBit 18 s, fun r => bif r == 1 then [15, 20, 24, 25] else bif r == 4 then [26, 31] else []⟩ [(ty104, .ro)] [(ty4, 0)] [.tmp 2] (Try.f70.body.getD .skip)
theorem Fi_IsCell_ok : FnOk Try.prog 70 Fi_IsCell := by
  unfold Fi_IsCell
  exact mkFn_ok (fn := Try.f70) mix C_ok tab_i_IsAtom_ok Try.func70 (by kernel_rfl) (by kernel_rfl) (by kernel_rfl) (by kernel_rfl) (by decide)
noncomputable def tab_i_IsCell : Tab := fun f => bif f == 70 then some Fi_IsCell else tab_i_IsAtom f
theorem tab_i_IsCell_ok : TabOk Try.prog tab_i_IsCell := tab_cons tab_i_IsAtom_ok Fi_IsCell_ok
noncomputable def Fi_IsRelation : Am.Fn := mkFn C tab_i_IsCell [0, 1, 3, 4, 5, 10, 15, 20, 25, 26, 30, 32, 37, 43, 44, 46] 51 (fun k => bif k == 1 then some 6 else bif k == 3 then some 6 else bif k == 5 then some 503316486 else bif k == 1000004 then some 503316482 else none) ⟨fun _ _ => none, fun s => Nat.testBit 18 s, fun r => bif r == 1 then [21, 26, 30, 31] else bif r == 4 then [38] else []⟩ [(ty72, .ro)] [(ty4, 0)] [.tmp 2] (Try.f75.body.getD .skip)
theorem Fi_IsRelation_ok : FnOk Try.prog 75 Fi_IsRelation := by
  unfold Fi_IsRelation
  exact mkFn_ok (fn := Try.f75) mix C_ok tab_i_IsCell_ok Try.func75 (by kernel_rfl) (by kernel_rfl) (by kernel_rfl) (by kernel_rfl) (by decide)
noncomputable def tab_i_IsRelation : Tab := fun f => bif f == 75 then some Fi_IsRelation else tab_i_IsCell f
theorem tab_i_IsRelation_ok : TabOk Try.prog tab_i_IsRelation := tab_cons tab_i_IsCell_ok Fi_IsRelation_ok
noncomputable def Fi_FindRelation : Am.Fn := mkFn C tab_i_IsRelation [0, 1, 2, 3, 5, 6, 7, 12, 14] 20 (fun k => bif k == 1 then some 19 else bif k == 3 then some 915 else bif k == 1000002 then some 899 else none) ⟨fun _ _ => none, fun s => Nat.testBit 64 s, fun r => bif r == 6 then [] else []⟩ [(ty44, .ro), (ty9, .ro)] [(ty3, 0)] [.tmp 4] (Try.f76.body.getD .skip)
theorem Fi_FindRelation_ok : FnOk Try.prog 76 Fi_FindRelation := by
  unfold Fi_FindRelation
  exact mkFn_ok (fn := Try.f76) mix C_ok tab_i_IsRelation_ok Try.func76 (by kernel_rfl) (by kernel_rfl) (by kernel_rfl) (by kernel_rfl) (by decide)
noncomputable def tab_i_FindRelation : Tab := fun f => bif f == 76 then some Fi_FindRelation else tab_i_IsRelation f
theorem tab_i_FindRelation_ok : TabOk Try.prog tab_i_FindRelation := tab_cons tab_i_IsRelation_ok Fi_FindRelation_ok
noncomputable def Fi_IsDatabase : Am.Fn := mkFn C tab_i_FindRelation [0, 1, 3, 4, 8, 13, 20] 27 (fun k => bif k == 1 then some 5 else bif k == 3 then some 5 else bif k == 5 then some 1797 else bif k == 1000004 then some 1793 else none) ⟨fun _ _ => none, fun s => Nat.testBit 16 s, fun r => bif r == 4 then [15] else []⟩ [(ty44, .ro)] [(ty4, 0)] [.tmp 2] (Try.f41.body.getD .skip)
theorem Fi_IsDatabase_ok : FnOk Try.prog 41 Fi_IsDatabase := by
  unfold Fi_IsDatabase
  exact mkFn_ok (fn := Try.f41) mix C_ok tab_i_FindRelation_ok Try.func41 (by kernel_rfl) (by kernel_rfl) (by kernel_rfl) (by kernel_rfl) (by decide)
noncomputable def tab_i_IsDatabase : Tab := fun f => bif f == 41 then some Fi_IsDatabase else tab_i_FindRelation f
theorem tab_i_IsDatabase_ok : TabOk Try.prog tab_i_IsDatabase := tab_cons tab_i_FindRelation_ok Fi_IsDatabase_ok
noncomputable def Fi_isZeroAtom : Am.Fn := mkFn C tab_i_IsDatabase [0, 1, 3, 8, 13] 17 (fun k => bif k == 1 then some 6 else none) ⟨fun _ _ => none, fun s => Nat.testBit 2 s, fun r => bif r == 1 then [4] else []⟩ [(ty88, .ro)] [(ty4, 0)] [.tmp 2] (Try.f111.body.getD .skip)
theorem Fi_isZeroAtom_ok : FnOk Try.prog 111 Fi_isZeroAtom := by
  unfold Fi_isZeroAtom
  exact mkFn_ok (fn := Try.f111) mix C_ok tab_i_IsDatabase_ok Try.func111 (by kernel_rfl) (by kernel_rfl) (by kernel_rfl) (by kernel_rfl) (by decide)
noncomputable def tab_i_isZeroAtom : Tab := fun f => bif f == 111 then some Fi_isZeroAtom else tab_i_IsDatabase f
theorem tab_i_isZeroAtom_ok : TabOk Try.prog tab_i_isZeroAtom := tab_cons tab_i_IsDatabase_ok Fi_isZeroAtom_ok
noncomputable def Fi_isVariable : Am.Fn := mkFn C tab_i_isZeroAtom [0, 1] 9 (fun _ => none) ⟨fun _ _ => none, fun s => Nat.testBit 0 s, fun _ => []⟩ [(ty3, .ro)] [(ty4, 0)] [.tmp 2] (Try.f112.body.getD .skip)
theorem Fi_isVariable_ok : FnOk Try.prog 112 Fi_isVariable := by
  unfold Fi_isVariable
  exact mkFn_ok (fn := Try.f112) mix C_ok tab_i_isZeroAtom_ok Try.func112 (by kernel_rfl) (by kernel_rfl) (by kernel_rfl) (by kernel_rfl) (by decide)
noncomputable def tab_i_isVariable : Tab := fun f => bif f == 112 then some Fi_isVariable else tab_i_isZeroAtom f
theorem tab_i_isVariable_ok : TabOk Try.prog tab_i_isVariable := tab_cons tab_i_isZeroAtom_ok Fi_isVariable_ok
noncomputable def Fi_fieldsFit : Am.Fn := mkFn C tab_i_isVariable [0, 1, 2, 3, 5, 6, 7, 8, 12, 17, 21, 25, 30, 36, 40, 44, 49, 50, 58, 61, 69, 71, 72, 74, 80, 84, 90, 91, 95, 104, 107] 110 (fun k => bif k == 3 then some 25 else bif k == 7 then some 24 else bif k == 10 then some 57 else bif k == 12 then some 24 else bif k == 1000013 then some 18569100589280704123486863368 else bif k == 2000003 then some 9 else bif k == 2000005 then some 9 else bif k == 2000012 then some 8 else bif k == 2000021 then some 2535301200456458802993406410760 else none) ⟨fun _ _ => none, fun s => Nat.testBit 8 s, fun r => bif r == 3 then [13, 31, 45, 51, 75, 91, 95] else []⟩ [(ty44, .ro), (ty90, .ro)] [(ty4, 0)] [.tmp 4] (Try.f87.body.getD .skip)
theorem Fi_fieldsFit_ok : FnOk Try.prog 87 Fi_fieldsFit := by
  unfold Fi_fieldsFit
  exact mkFn_ok (fn := Try.f87) mix C_ok tab_i_isVariable_ok Try.func87 (by kernel_rfl) (by kernel_rfl) (by kernel_rfl) (by kernel_rfl) (by decide)
noncomputable def tab_i_fieldsFit : Tab := fun f => bif f == 87 then some Fi_fieldsFit else tab_i_isVariable f
theorem tab_i_fieldsFit_ok : TabOk Try.prog tab_i_fieldsFit := tab_cons tab_i_isVariable_ok Fi_fieldsFit_ok
noncomputable def Fi_partsIn : Am.Fn := mkFn C tab_i_fieldsFit [0, 1] 14 (fun _ => none) ⟨fun _ _ => none, fun s => Nat.testBit 0 s, fun _ => []⟩ [(ty3, .ro)] [(ty3, 0)] [.tmp 2] (Try.f88.body.getD .skip)
theorem Fi_partsIn_ok : FnOk Try.prog 88 Fi_partsIn := by
  unfold Fi_partsIn
  exact mkFn_ok (fn := Try.f88) mix C_ok tab_i_fieldsFit_ok Try.func88 (by kernel_rfl) (by kernel_rfl) (by kernel_rfl) (by kernel_rfl) (by decide)
noncomputable def tab_i_partsIn : Tab := fun f => bif f == 88 then some Fi_partsIn else tab_i_fieldsFit f
theorem tab_i_partsIn_ok : TabOk Try.prog tab_i_partsIn := tab_cons tab_i_fieldsFit_ok Fi_partsIn_ok
noncomputable def Fi_IsFormula : Am.Fn := mkFn C tab_i_partsIn [0, 1, 2, 3, 5, 6, 7, 24, 29, 35, 40, 44, 48, 57, 64, 68, 70, 73, 81, 88, 91, 96, 98, 101, 106, 108, 109, 111, 115, 119] 122 (fun k => bif k == 1 then some 19 else bif k == 3 then some 19 else bif k == 4 then some 51 else bif k == 6 then some 117440563 else bif k == 14 then some 117440627 else bif k == 18 then some 117440627 else bif k == 22 then some 117440755 else bif k == 24 then some 50 else bif k == 1000005 then some 117440547 else bif k == 2000023 then some 117440547 else none) ⟨fun _ _ => none, fun s => Nat.testBit 128 s, fun r => bif r == 7 then [32, 111] else []⟩ [(ty44, .ro), (ty46, .ro)] [(ty4, 0)] [.tmp 4] (Try.f54.body.getD .skip)
theorem Fi_IsFormula_ok : FnOk Try.prog 54 Fi_IsFormula := by
  unfold Fi_IsFormula
  exact mkFn_ok (fn := Try.f54) mix C_ok tab_i_partsIn_ok Try.func54 (by kernel_rfl) (by kernel_rfl) (by kernel_rfl) (by kernel_rfl) (by decide)
noncomputable def tab_i_IsFormula : Tab := fun f => bif f == 54 then some Fi_IsFormula else tab_i_partsIn f
theorem tab_i_IsFormula_ok : TabOk Try.prog tab_i_IsFormula := tab_cons tab_i_partsIn_ok Fi_IsFormula_ok
noncomputable def Fi_freeIn (t : Tab) : Am.Fn := mkFn C t [0, 1, 2, 3, 4, 5, 6, 7, 8, 9, 10, 11, 12, 13, 15, 18, 21, 24, 29, 30, 31, 36, 45, 46, 50, 59, 63, 72, 82] 86 (fun k => bif k == 1 then some 19 else bif k == 2 then some 49 else bif k == 4 then some 113 else bif k == 5 then some 112 else bif k == 7 then some 112 else bif k == 10 then some 16642998768 else bif k == 13 then some 112 else bif k == 16 then some 527765581333616 else bif k == 20 then some 113 else bif k == 24 then some 110680464442257315920 else bif k == 27 then some 113 else bif k == 28 then some 80 else bif k == 1000008 then some 16642998384 else bif k == 1000014 then some 527765581332592 else bif k == 1000022 then some 110680464442257309776 else bif k == 2000020 then some 36028797019488369 else bif k == 2000028 then some 80 else none) ⟨fun _ _ => none, fun s => Nat.testBit 32 s, fun r => bif r == 5 then [26, 31, 36, 46, 50, 53] else []⟩ [(ty46, .ro), (ty3, .ro)] [(ty128, 0)] [.cell 4 128] (Try.f91.body.getD .skip)
theorem Fi_freeIn_ok1 {t : Tab} (h : TabOk Try.prog t) : FnOk Try.prog 91 (Fi_freeIn t) := by
  unfold Fi_freeIn
  exact mkFn_ok (fn := Try.f91) mix C_ok h Try.func91 (by kernel_rfl) (by kernel_rfl) (by kernel_rfl) (by kernel_rfl) (by decide)
noncomputable def tabR_i_freeIn : Nat → Tab := fun d => Nat.rec (motive := fun _ => Tab) tab_i_IsFormula (fun _ t => fun f => bif f == 91 then some (Fi_freeIn t) else tab_i_IsFormula f) d
theorem tabR_i_freeIn_ok : ∀ d, TabOk Try.prog (tabR_i_freeIn d)
  | 0 => tab_i_IsFormula_ok
  | d + 1 => (tab_cons (tab_i_IsFormula_ok) (Fi_freeIn_ok1 (tabR_i_freeIn_ok d)))
noncomputable def tab_i_freeIn : Tab := fun f => bif f == 91 then some (Fi_freeIn (tabR_i_freeIn fuel)) else tab_i_IsFormula f
theorem tab_i_freeIn_ok : TabOk Try.prog tab_i_freeIn := (tab_cons tab_i_IsFormula_ok (Fi_freeIn_ok1 (tabR_i_freeIn_ok fuel)))
noncomputable def Fi_FreeOf : Am.Fn := mkFn C tab_i_freeIn [0, 1, 2, 3, 6, 7, 8] 30 (fun k => bif k == 1000005 then some 786496 else none) ⟨fun _ _ => none, fun s => Nat.testBit 0 s, fun _ => []⟩ [(ty44, .ro), (ty46, .ro)] [(ty23, 1), (ty4, 0)] [.tmp 4, .tmp 5] (Try.f58.body.getD .skip)
theorem Fi_FreeOf_ok : FnOk Try.prog 58 Fi_FreeOf := by
  unfold Fi_FreeOf
  exact mkFn_ok (fn := Try.f58) mix C_ok tab_i_freeIn_ok Try.func58 (by kernel_rfl) (by kernel_rfl) (by kernel_rfl) (by kernel_rfl) (by decide)
noncomputable def tab_i_FreeOf : Tab := fun f => bif f == 58 then some Fi_FreeOf else tab_i_freeIn f
theorem tab_i_FreeOf_ok : TabOk Try.prog tab_i_FreeOf := tab_cons tab_i_freeIn_ok Fi_FreeOf_ok
noncomputable def Fi_IsRule : Am.Fn := mkFn C tab_i_FreeOf [0, 1, 2, 3, 5, 6, 7] 19 (fun _ => none) ⟨fun d i => bif d == 7 then (bif i == 0 then some 11 else bif i == 1 then some 12 else none) else none, fun s => Nat.testBit 0 s, fun _ => []⟩ [(ty44, .ro), (ty46, .ro)] [(ty4, 0)] [.tmp 4] (Try.f29.body.getD .skip)
theorem Fi_IsRule_ok : FnOk Try.prog 29 Fi_IsRule := by
  unfold Fi_IsRule
  exact mkFn_ok (fn := Try.f29) mix C_ok tab_i_FreeOf_ok Try.func29 (by kernel_rfl) (by kernel_rfl) (by kernel_rfl) (by kernel_rfl) (by decide)
noncomputable def tab_i_IsRule : Tab := fun f => bif f == 29 then some Fi_IsRule else tab_i_FreeOf f
theorem tab_i_IsRule_ok : TabOk Try.prog tab_i_IsRule := tab_cons tab_i_FreeOf_ok Fi_IsRule_ok
noncomputable def Fw_eqIntS : Am.Fn := mkFn C tab_i_IsRule [0, 1, 2, 3, 5, 17, 19, 21, 23] 26 (fun k => bif k == 1000004 then some 35 else none) ⟨fun _ _ => none, fun s => Nat.testBit 0 s, fun _ => []⟩ [(ty23, .ro), (ty23, .ro)] [(ty4, 0)] [.tmp 4] (Try.f15.body.getD .skip)
theorem Fw_eqIntS_ok : FnOk Try.prog 15 Fw_eqIntS := by
  unfold Fw_eqIntS
  exact mkFn_ok (fn := Try.f15) mix C_ok tab_i_IsRule_ok Try.func15 (by kernel_rfl) (by kernel_rfl) (by kernel_rfl) (by kernel_rfl) (by decide)
noncomputable def tab_w_eqIntS : Tab := fun f => bif f == 15 then some Fw_eqIntS else tab_i_IsRule f
theorem tab_w_eqIntS_ok : TabOk Try.prog tab_w_eqIntS := tab_cons tab_i_IsRule_ok Fw_eqIntS_ok
noncomputable def Fw_eqAtom : Am.Fn := mkFn C tab_w_eqIntS [0, 1, 2, 3, 5, 7, 11, 13, 16, 18] 21 (fun _ => none) ⟨fun _ _ => none, fun s => Nat.testBit 12 s, fun r => bif r == 2 then [6] else bif r == 3 then [8] else []⟩ [(ty88, .ro), (ty88, .ro)] [(ty4, 0)] [.tmp 4] (Try.f90.body.getD .skip)
theorem Fw_eqAtom_ok : FnOk Try.prog 90 Fw_eqAtom := by
  unfold Fw_eqAtom
  exact mkFn_ok (fn := Try.f90) mix C_ok tab_w_eqIntS_ok Try.func90 (by kernel_rfl) (by kernel_rfl) (by kernel_rfl) (by kernel_rfl) (by decide)
noncomputable def tab_w_eqAtom : Tab := fun f => bif f == 90 then some Fw_eqAtom else tab_w_eqIntS f
theorem tab_w_eqAtom_ok : TabOk Try.prog tab_w_eqAtom := tab_cons tab_w_eqIntS_ok Fw_eqAtom_ok
noncomputable def Fw_eqAtomS : Am.Fn := mkFn C tab_w_eqAtom [0, 1, 2, 3, 5, 17, 19, 21, 23] 27 (fun k => bif k == 1000004 then some 35 else none) ⟨fun _ _ => none, fun s => Nat.testBit 0 s, fun _ => []⟩ [(ty102, .ro), (ty102, .ro)] [(ty4, 0)] [.tmp 4] (Try.f128.body.getD .skip)
theorem Fw_eqAtomS_ok : FnOk Try.prog 128 Fw_eqAtomS := by
  unfold Fw_eqAtomS
  exact mkFn_ok (fn := Try.f128) mix C_ok tab_w_eqAtom_ok Try.func128 (by kernel_rfl) (by kernel_rfl) (by kernel_rfl) (by kernel_rfl) (by decide)
noncomputable def tab_w_eqAtomS : Tab := fun f => bif f == 128 then some Fw_eqAtomS else tab_w_eqAtom f
theorem tab_w_eqAtomS_ok : TabOk Try.prog tab_w_eqAtomS := tab_cons tab_w_eqAtom_ok Fw_eqAtomS_ok
noncomputable def Fw_eqCell : Am.Fn := mkFn C tab_w_eqAtomS [0, 1, 2, 3, 5, 7, 10, 12] 16 (fun _ => none) ⟨fun _ _ => none, fun s => Nat.testBit 12 s, fun r => bif r == 2 then [11] else bif r == 3 then [13] else []⟩ [(ty104, .ro), (ty104, .ro)] [(ty4, 0)] [.tmp 4] (Try.f114.body.getD .skip)
theorem Fw_eqCell_ok : FnOk Try.prog 114 Fw_eqCell := by
  unfold Fw_eqCell
  exact mkFn_ok (fn := Try.f114) mix C_ok tab_w_eqAtomS_ok Try.func114 (by kernel_rfl) (by kernel_rfl) (by kernel_rfl) (by kernel_rfl) (by decide)
noncomputable def tab_w_eqCell : Tab := fun f => bif f == 114 then some Fw_eqCell else tab_w_eqAtomS f
theorem tab_w_eqCell_ok : TabOk Try.prog tab_w_eqCell := tab_cons tab_w_eqAtomS_ok Fw_eqCell_ok
noncomputable def Fw_eqRow : Am.Fn := mkFn C tab_w_eqCell [0, 1, 2, 3, 5, 7, 10, 12] 16 (fun _ => none) ⟨fun _ _ => none, fun s => Nat.testBit 12 s, fun r => bif r == 2 then [11] else bif r == 3 then [13] else []⟩ [(ty146, .ro), (ty146, .ro)] [(ty4, 0)] [.tmp 4] (Try.f113.body.getD .skip)
theorem Fw_eqRow_ok : FnOk Try.prog 113 Fw_eqRow := by
  unfold Fw_eqRow
  exact mkFn_ok (fn := Try.f113) mix C_ok tab_w_eqCell_ok Try.func113 (by kernel_rfl) (by kernel_rfl) (by kernel_rfl) (by kernel_rfl) (by decide)
noncomputable def tab_w_eqRow : Tab := fun f => bif f == 113 then some Fw_eqRow else tab_w_eqCell f
theorem tab_w_eqRow_ok : TabOk Try.prog tab_w_eqRow := tab_cons tab_w_eqCell_ok Fw_eqRow_ok
noncomputable def Fw_eqRowS : Am.Fn := mkFn C tab_w_eqRow [0, 1, 2, 3, 5, 17, 19, 21, 23] 27 (fun k => bif k == 1000004 then some 35 else none) ⟨fun _ _ => none, fun s => Nat.testBit 0 s, fun _ => []⟩ [(ty70, .ro), (ty70, .ro)] [(ty4, 0)] [.tmp 4] (Try.f89.body.getD .skip)
theorem Fw_eqRowS_ok : FnOk Try.prog 89 Fw_eqRowS := by
  unfold Fw_eqRowS
  exact mkFn_ok (fn := Try.f89) mix C_ok tab_w_eqRow_ok Try.func89 (by kernel_rfl) (by kernel_rfl) (by kernel_rfl) (by kernel_rfl) (by decide)
noncomputable def tab_w_eqRowS : Tab := fun f => bif f == 89 then some Fw_eqRowS else tab_w_eqRow f
theorem tab_w_eqRowS_ok : TabOk Try.prog tab_w_eqRowS := tab_cons tab_w_eqRow_ok Fw_eqRowS_ok
noncomputable def Fw_eqRelation : Am.Fn := mkFn C tab_w_eqRowS [0, 1, 2, 3, 5, 7, 10, 12, 15, 17] 21 (fun _ => none) ⟨fun _ _ => none, fun s => Nat.testBit 12 s, fun r => bif r == 2 then [16] else bif r == 3 then [18] else []⟩ [(ty72, .ro), (ty72, .ro)] [(ty4, 0)] [.tmp 4] (Try.f55.body.getD .skip)
theorem Fw_eqRelation_ok : FnOk Try.prog 55 Fw_eqRelation := by
  unfold Fw_eqRelation
  exact mkFn_ok (fn := Try.f55) mix C_ok tab_w_eqRowS_ok Try.func55 (by kernel_rfl) (by kernel_rfl) (by kernel_rfl) (by kernel_rfl) (by decide)
noncomputable def tab_w_eqRelation : Tab := fun f => bif f == 55 then some Fw_eqRelation else tab_w_eqRowS f
theorem tab_w_eqRelation_ok : TabOk Try.prog tab_w_eqRelation := tab_cons tab_w_eqRowS_ok Fw_eqRelation_ok
noncomputable def Fw_eqRelationS : Am.Fn := mkFn C tab_w_eqRelation [0, 1, 2, 3, 5, 17, 19, 21, 23] 27 (fun k => bif k == 1000004 then some 35 else none) ⟨fun _ _ => none, fun s => Nat.testBit 0 s, fun _ => []⟩ [(ty44, .ro), (ty44, .ro)] [(ty4, 0)] [.tmp 4] (Try.f26.body.getD .skip)
theorem Fw_eqRelationS_ok : FnOk Try.prog 26 Fw_eqRelationS := by
  unfold Fw_eqRelationS
  exact mkFn_ok (fn := Try.f26) mix C_ok tab_w_eqRelation_ok Try.func26 (by kernel_rfl) (by kernel_rfl) (by kernel_rfl) (by kernel_rfl) (by decide)
noncomputable def tab_w_eqRelationS : Tab := fun f => bif f == 26 then some Fw_eqRelationS else tab_w_eqRelation f
theorem tab_w_eqRelationS_ok : TabOk Try.prog tab_w_eqRelationS := tab_cons tab_w_eqRelation_ok Fw_eqRelationS_ok
noncomputable def Fw_eqNode : Am.Fn := mkFn C tab_w_eqRelationS [0, 1, 2, 3, 5, 7, 10, 12, 16, 18, 21, 23, 26, 28, 32, 34, 37, 39, 42, 44] 47 (fun _ => none) ⟨fun _ _ => none, fun s => Nat.testBit 12 s, fun r => bif r == 2 then [11, 27] else bif r == 3 then [13, 29] else []⟩ [(ty90, .ro), (ty90, .ro)] [(ty4, 0)] [.tmp 4] (Try.f56.body.getD .skip)
theorem Fw_eqNode_ok : FnOk Try.prog 56 Fw_eqNode := by
  unfold Fw_eqNode
  exact mkFn_ok (fn := Try.f56) mix C_ok tab_w_eqRelationS_ok Try.func56 (by kernel_rfl) (by kernel_rfl) (by kernel_rfl) (by kernel_rfl) (by decide)
noncomputable def tab_w_eqNode : Tab := fun f => bif f == 56 then some Fw_eqNode else tab_w_eqRelationS f
theorem tab_w_eqNode_ok : TabOk Try.prog tab_w_eqNode := tab_cons tab_w_eqRelationS_ok Fw_eqNode_ok
noncomputable def Fw_eqNodeS : Am.Fn := mkFn C tab_w_eqNode [0, 1, 2, 3, 5, 17, 19, 21, 23] 27 (fun k => bif k == 1000004 then some 35 else none) ⟨fun _ _ => none, fun s => Nat.testBit 0 s, fun _ => []⟩ [(ty46, .ro), (ty46, .ro)] [(ty4, 0)] [.tmp 4] (Try.f27.body.getD .skip)
theorem Fw_eqNodeS_ok : FnOk Try.prog 27 Fw_eqNodeS := by
  unfold Fw_eqNodeS
  exact mkFn_ok (fn := Try.f27) mix C_ok tab_w_eqNode_ok Try.func27 (by kernel_rfl) (by kernel_rfl) (by kernel_rfl) (by kernel_rfl) (by decide)
noncomputable def tab_w_eqNodeS : Tab := fun f => bif f == 27 then some Fw_eqNodeS else tab_w_eqNode f
theorem tab_w_eqNodeS_ok : TabOk Try.prog tab_w_eqNodeS := tab_cons tab_w_eqNode_ok Fw_eqNodeS_ok
noncomputable def Fw_FnExactIsRule : Am.Fn := mkFn C tab_w_eqNodeS [0, 1, 2, 3, 5, 6, 7, 8, 9] 45 (fun _ => none) ⟨fun _ _ => none, fun s => Nat.testBit 0 s, fun _ => []⟩ [(ty39, .ro), (ty40, .ro)] [(ty4, 0)] [.tmp 4] (Try.f5.body.getD .skip)
theorem Fw_FnExactIsRule_ok : FnOk Try.prog 5 Fw_FnExactIsRule := by
  unfold Fw_FnExactIsRule
  exact mkFn_ok (fn := Try.f5) mix C_ok tab_w_eqNodeS_ok Try.func5 (by kernel_rfl) (by kernel_rfl) (by kernel_rfl) (by kernel_rfl) (by decide)
noncomputable def tab_w_FnExactIsRule : Tab := fun f => bif f == 5 then some Fw_FnExactIsRule else tab_w_eqNodeS f
theorem tab_w_FnExactIsRule_ok : TabOk Try.prog tab_w_FnExactIsRule := tab_cons tab_w_eqNodeS_ok Fw_FnExactIsRule_ok
end Go.Proofs.Ytjccadhifgkdbaa.P.It
