/- A part of the proof: It2v. No conditions. -/
import Derived.Test.YtkanidldnnfloaaGreatPG7
import Derived.Test.YtkanidldnnfloaaGreatChecked
import Derived.KernelRfl
set_option linter.unusedVariables false
set_option maxRecDepth 100000
namespace Go.Proofs.YtkanidldnnfloaaGreat.P.It
open Am
instance noGlob : Glob := ⟨fun _ _ => True, fun _ _ => trivial⟩
abbrev ty1 : Ty := (.raw 1)
abbrev ty2 : Ty := (.int .i64)
abbrev ty3 : Ty := (.int .i64)
abbrev ty4 : Ty := .bool
abbrev ty5 : Ty := (.int .u8)
abbrev ty9 : Ty := .str
abbrev ty12 : Ty := (.int .u64)
abbrev ty20 : Ty := (.raw 2)
abbrev ty21 : Ty := (.int .i32)
abbrev ty23 : Ty := (.raw 1)
abbrev ty28 : Ty := (.raw 1)
abbrev ty30 : Ty := (.raw 1)
abbrev ty31 : Ty := (.raw 1)
abbrev ty32 : Ty := (.raw 1)
abbrev ty33 : Ty := (.raw 1)
abbrev ty34 : Ty := (.raw 1)
abbrev ty35 : Ty := (.raw 1)
abbrev ty41 : Ty := (.raw 1)
abbrev ty42 : Ty := (.raw 1)
abbrev ty48 : Ty := (.raw 1)
abbrev ty50 : Ty := (.raw 1)
abbrev ty51 : Ty := (.raw 1)
abbrev ty52 : Ty := (.raw 1)
abbrev ty53 : Ty := (.raw 1)
abbrev ty54 : Ty := (.raw 1)
abbrev ty55 : Ty := (.raw 1)
abbrev ty56 : Ty := (.raw 1)
abbrev ty58 : Ty := (.raw 1)
abbrev ty59 : Ty := (.slice 3 ty3)
abbrev ty61 : Ty := (.raw 1)
abbrev ty63 : Ty := (.raw 1)
abbrev ty64 : Ty := (.raw 1)
abbrev ty65 : Ty := (.raw 1)
abbrev ty66 : Ty := (.raw 1)
abbrev ty67 : Ty := (.raw 1)
abbrev ty68 : Ty := (.raw 1)
abbrev ty69 : Ty := (.raw 1)
abbrev ty71 : Ty := (.raw 1)
abbrev ty72 : Ty := (.agg (.pair ty3 ty3))
abbrev ty73 : Ty := (.agg (.pair ty3 ty3))
abbrev ty74 : Ty := (.agg (.pair ty73 ty73))
abbrev ty75 : Ty := (.agg (.pair ty73 ty73))
abbrev ty77 : Ty := (.raw 1)
abbrev ty79 : Ty := (.raw 1)
abbrev ty80 : Ty := (.agg (.pair ty73 (.pair ty73 ty73)))
abbrev ty81 : Ty := (.agg (.pair ty73 (.pair ty73 ty73)))
abbrev ty84 : Ty := (.agg (.pair ty59 (.pair ty3 ty4)))
abbrev ty85 : Ty := (.agg (.pair ty59 (.pair ty3 ty4)))
abbrev ty86 : Ty := (.slice 75 ty75)
abbrev ty88 : Ty := (.raw 1)
abbrev ty89 : Ty := (.raw 1)
abbrev ty90 : Ty := (.raw 1)
abbrev ty91 : Ty := (.agg (.pair ty3 ty3))
abbrev ty92 : Ty := (.agg (.pair ty91 (.pair ty91 ty91)))
abbrev ty93 : Ty := (.agg (.pair ty91 (.pair ty91 ty91)))
abbrev ty96 : Ty := (.raw 1)
abbrev ty97 : Ty := (.agg (.pair ty73 ty73))
abbrev ty98 : Ty := (.agg (.pair ty73 ty73))
abbrev ty99 : Ty := (.agg (.pair ty73 (.pair ty73 (.pair ty98 ty98))))
abbrev ty100 : Ty := (.agg (.pair ty73 (.pair ty73 (.pair ty98 ty98))))
abbrev ty101 : Ty := (.raw 1)
abbrev ty103 : Ty := (.raw 1)
abbrev ty104 : Ty := (.raw 1)
abbrev ty105 : Ty := (.raw 1)
abbrev ty106 : Ty := (.raw 1)
abbrev ty107 : Ty := (.raw 1)
abbrev ty111 : Ty := (.raw 1)
abbrev ty112 : Ty := (.raw 1)
abbrev ty113 : Ty := (.raw 1)
abbrev ty114 : Ty := (.raw 1)
abbrev ty118 : Ty := (.raw 1)
abbrev ty119 : Ty := (.raw 1)
abbrev ty120 : Ty := (.slice 59 ty59)
abbrev ty123 : Ty := (.raw 1)
abbrev ty124 : Ty := (.raw 1)
abbrev ty125 : Ty := (.raw 1)
abbrev ty126 : Ty := (.raw 1)
abbrev ty127 : Ty := (.raw 1)
abbrev ty128 : Ty := (.raw 1)
abbrev ty129 : Ty := (.raw 1)
abbrev ty130 : Ty := (.raw 1)
abbrev ty131 : Ty := (.raw 1)
abbrev ty132 : Ty := (.raw 1)
abbrev ty133 : Ty := (.raw 1)
abbrev ty134 : Ty := (.raw 1)
abbrev ty135 : Ty := (.raw 1)
abbrev ty136 : Ty := (.raw 1)
abbrev ty137 : Ty := (.raw 1)
abbrev ty138 : Ty := (.raw 1)
abbrev ty139 : Ty := (.raw 1)
abbrev ty141 : Ty := (.raw 1)
abbrev ty142 : Ty := (.raw 1)
abbrev ty143 : Ty := (.raw 1)
abbrev ty144 : Ty := (.raw 1)
abbrev ty145 : Ty := (.raw 1)
abbrev ty146 : Ty := (.raw 1)
abbrev ty147 : Ty := (.raw 1)
abbrev ty148 : Ty := (.raw 1)
abbrev ty149 : Ty := (.raw 1)
abbrev ty150 : Ty := (.raw 1)
abbrev ty151 : Ty := (.raw 1)
abbrev ty152 : Ty := (.raw 1)
abbrev ty154 : Ty := (.raw 1)
abbrev ty155 : Ty := (.raw 1)
abbrev ty156 : Ty := (.raw 1)
abbrev ty157 : Ty := (.raw 1)
abbrev ty158 : Ty := (.raw 1)
abbrev ty159 : Ty := (.raw 1)
abbrev ty160 : Ty := (.raw 1)
abbrev ty161 : Ty := (.agg (.pair ty59 (.pair ty3 ty4)))
abbrev ty162 : Ty := (.agg (.pair ty3 (.pair ty161 (.pair ty9 (.pair ty9 (.pair ty59 (.pair ty3 (.pair ty3 ty3))))))))
abbrev ty163 : Ty := (.agg (.pair ty3 (.pair ty161 (.pair ty9 (.pair ty9 (.pair ty59 (.pair ty3 (.pair ty3 ty3))))))))
abbrev ty164 : Ty := (.raw 1)
abbrev ty165 : Ty := (.slice 161 ty161)
abbrev ty166 : Ty := (.agg (.pair ty3 ty165))
abbrev ty167 : Ty := (.agg (.pair ty3 ty165))
abbrev ty168 : Ty := (.agg (.pair ty167 ty120))
abbrev ty169 : Ty := (.agg (.pair ty167 ty120))
abbrev ty170 : Ty := (.raw 1)
abbrev ty171 : Ty := (.raw 1)
abbrev ty172 : Ty := (.agg (.pair ty3 (.pair ty85 (.pair ty9 (.pair ty9 (.pair ty59 (.pair ty3 (.pair ty3 ty3))))))))
abbrev ty173 : Ty := (.agg (.pair ty3 (.pair ty85 (.pair ty9 (.pair ty9 (.pair ty59 (.pair ty3 (.pair ty3 ty3))))))))
abbrev ty174 : Ty := (.raw 1)
abbrev ty175 : Ty := (.raw 1)
abbrev ty176 : Ty := (.raw 1)
abbrev ty177 : Ty := (.raw 1)
abbrev ty178 : Ty := (.raw 1)
abbrev ty179 : Ty := (.raw 1)
abbrev ty180 : Ty := (.raw 1)
abbrev ty181 : Ty := (.raw 1)
abbrev ty182 : Ty := (.slice 5 ty5)
abbrev ty185 : Ty := (.raw 1)
abbrev ty186 : Ty := (.raw 1)
abbrev ty187 : Ty := (.raw 1)
abbrev ty188 : Ty := (.raw 1)
abbrev ty189 : Ty := (.raw 1)
abbrev ty190 : Ty := (.raw 1)
abbrev ty191 : Ty := (.raw 1)
abbrev ty192 : Ty := (.raw 1)
abbrev ty193 : Ty := (.raw 1)
abbrev ty194 : Ty := (.raw 1)
abbrev ty195 : Ty := (.raw 1)
abbrev ty196 : Ty := (.raw 1)
abbrev ty197 : Ty := (.raw 1)
abbrev ty198 : Ty := (.raw 1)
abbrev ty199 : Ty := (.int .u64)
abbrev ty200 : Ty := (.raw 1)
abbrev ty201 : Ty := (.raw 1)
abbrev ty202 : Ty := (.raw 1)
abbrev ty203 : Ty := (.agg (.pair ty9 ty167))
abbrev ty204 : Ty := (.agg (.pair ty9 ty167))
abbrev ty205 : Ty := (.raw 1)
abbrev ty206 : Ty := (.raw 1)
abbrev ty207 : Ty := (.raw 1)
abbrev ty208 : Ty := (.raw 1)
abbrev ty209 : Ty := (.raw 1)
abbrev ty210 : Ty := (.slice 120 ty120)
abbrev ty211 : Ty := (.raw 1)
abbrev ty213 : Ty := (.raw 1)
abbrev ty214 : Ty := (.raw 1)
abbrev ty215 : Ty := (.raw 1)
abbrev ty216 : Ty := (.raw 1)
abbrev ty217 : Ty := (.int .i64)
abbrev ty219 : Ty := (.raw 1)
abbrev ty220 : Ty := (.raw 1)
abbrev ty221 : Ty := (.raw 1)
abbrev ty223 : Ty := (.raw 1)
abbrev ty224 : Ty := (.raw 1)
abbrev ty225 : Ty := (.int .u32)
abbrev ty226 : Ty := (.raw 1)
abbrev ty227 : Ty := (.int .u64)
abbrev ty228 : Ty := (.raw 1)
abbrev ty229 : Ty := (.raw 1)
abbrev ty230 : Ty := (.raw 1)
abbrev ty231 : Ty := (.raw 1)
abbrev ty232 : Ty := (.raw 1)
abbrev ty233 : Ty := (.int .u64)
abbrev ty234 : Ty := (.raw 1)
abbrev ty235 : Ty := (.raw 1)
abbrev ty236 : Ty := (.raw 1)
abbrev ty237 : Ty := (.raw 0)
abbrev ty238 : Ty := (.raw 1)
abbrev ty239 : Ty := (.raw 1)
abbrev ty240 : Ty := (.raw 1)
abbrev ty241 : Ty := (.raw 1)
abbrev ty242 : Ty := (.raw 1)
abbrev ty243 : Ty := (.raw 0)
abbrev ty245 : Ty := (.raw 1)
abbrev ty246 : Ty := (.raw 1)
abbrev ty252 : Ty := (.raw 1)
abbrev ty255 : Ty := (.raw 1)
abbrev ty256 : Ty := (.raw 0)
abbrev ty22 : Ty := (.slice 93 ty93)
abbrev ty29 : Ty := (.slice 81 ty81)
abbrev ty37 : Ty := (.slice 163 ty163)
abbrev ty38 : Ty := (.slice 169 ty169)
abbrev ty39 : Ty := (.agg (.pair ty37 ty38))
abbrev ty40 : Ty := (.agg (.pair ty37 ty38))
abbrev ty43 : Ty := (.slice 173 ty173)
abbrev ty57 : Ty := (.slice 91 ty91)
abbrev ty62 : Ty := (.slice 73 ty73)
abbrev ty70 : Ty := (.slice 29 ty29)
abbrev ty78 : Ty := (.slice 85 ty85)
abbrev ty82 : Ty := (.agg (.pair ty3 ty78))
abbrev ty83 : Ty := (.agg (.pair ty3 ty78))
abbrev ty94 : Ty := (.slice 100 ty100)
abbrev ty108 : Ty := (.slice 204 ty204)
abbrev ty109 : Ty := (.agg (.pair ty9 (.pair ty3 ty108)))
abbrev ty110 : Ty := (.agg (.pair ty9 (.pair ty3 ty108)))
abbrev ty121 : Ty := (.agg (.pair ty83 ty120))
abbrev ty122 : Ty := (.agg (.pair ty83 ty120))
abbrev ty183 : Ty := (.agg (.pair ty9 ty83))
abbrev ty184 : Ty := (.agg (.pair ty9 ty83))
abbrev ty24 : Ty := (.slice 83 ty83)
abbrev ty25 : Ty := (.agg (.pair ty3 ty24))
abbrev ty26 : Ty := (.agg (.pair ty3 ty24))
abbrev ty36 : Ty := (.slice 110 ty110)
abbrev ty44 : Ty := (.slice 122 ty122)
abbrev ty45 : Ty := (.agg (.pair ty43 ty44))
abbrev ty46 : Ty := (.agg (.pair ty43 ty44))
abbrev ty115 : Ty := (.slice 184 ty184)
abbrev ty116 : Ty := (.agg (.pair ty9 (.pair ty3 ty115)))
abbrev ty117 : Ty := (.agg (.pair ty9 (.pair ty3 ty115)))
abbrev ty49 : Ty := (.slice 117 ty117)
def tys : Tys := [(1, ty1, 8), (2, ty2, 8), (3, ty3, 8), (4, ty4, 1), (5, ty5, 1), (9, ty9, 16), (12, ty12, 8), (20, ty20, 16), (21, ty21, 4), (23, ty23, 8), (28, ty28, 8), (30, ty30, 8), (31, ty31, 8), (32, ty32, 8), (33, ty33, 8), (34, ty34, 8), (35, ty35, 8), (41, ty41, 8), (42, ty42, 8), (48, ty48, 8), (50, ty50, 8), (51, ty51, 8), (52, ty52, 8), (53, ty53, 8), (54, ty54, 8), (55, ty55, 8), (56, ty56, 8), (58, ty58, 8), (59, ty59, 24), (61, ty61, 8), (63, ty63, 8), (64, ty64, 8), (65, ty65, 8), (66, ty66, 8), (67, ty67, 8), (68, ty68, 8), (69, ty69, 8), (71, ty71, 8), (72, ty72, 16), (73, ty73, 16), (74, ty74, 32), (75, ty75, 32), (77, ty77, 8), (79, ty79, 8), (80, ty80, 48), (81, ty81, 48), (84, ty84, 40), (85, ty85, 40), (86, ty86, 24), (88, ty88, 8), (89, ty89, 8), (90, ty90, 8), (91, ty91, 16), (92, ty92, 48), (93, ty93, 48), (96, ty96, 8), (97, ty97, 32), (98, ty98, 32), (99, ty99, 96), (100, ty100, 96), (101, ty101, 8), (103, ty103, 8), (104, ty104, 8), (105, ty105, 8), (106, ty106, 8), (107, ty107, 8), (111, ty111, 8), (112, ty112, 8), (113, ty113, 8), (114, ty114, 8), (118, ty118, 8), (119, ty119, 8), (120, ty120, 24), (123, ty123, 8), (124, ty124, 8), (125, ty125, 8), (126, ty126, 8), (127, ty127, 8), (128, ty128, 8), (129, ty129, 8), (130, ty130, 8), (131, ty131, 8), (132, ty132, 8), (133, ty133, 8), (134, ty134, 8), (135, ty135, 8), (136, ty136, 8), (137, ty137, 8), (138, ty138, 8), (139, ty139, 8), (141, ty141, 8), (142, ty142, 8), (143, ty143, 8), (144, ty144, 8), (145, ty145, 8), (146, ty146, 8), (147, ty147, 8), (148, ty148, 8), (149, ty149, 8), (150, ty150, 8), (151, ty151, 8), (152, ty152, 8), (154, ty154, 8), (155, ty155, 8), (156, ty156, 8), (157, ty157, 8), (158, ty158, 8), (159, ty159, 8), (160, ty160, 8), (161, ty161, 40), (162, ty162, 128), (163, ty163, 128), (164, ty164, 8), (165, ty165, 24), (166, ty166, 32), (167, ty167, 32), (168, ty168, 56), (169, ty169, 56), (170, ty170, 8), (171, ty171, 8), (172, ty172, 128), (173, ty173, 128), (174, ty174, 8), (175, ty175, 8), (176, ty176, 8), (177, ty177, 8), (178, ty178, 8), (179, ty179, 8), (180, ty180, 8), (181, ty181, 8), (182, ty182, 24), (185, ty185, 8), (186, ty186, 8), (187, ty187, 8), (188, ty188, 8), (189, ty189, 8), (190, ty190, 8), (191, ty191, 8), (192, ty192, 8), (193, ty193, 8), (194, ty194, 8), (195, ty195, 8), (196, ty196, 8), (197, ty197, 8), (198, ty198, 8), (199, ty199, 8), (200, ty200, 8), (201, ty201, 8), (202, ty202, 8), (203, ty203, 48), (204, ty204, 48), (205, ty205, 8), (206, ty206, 8), (207, ty207, 8), (208, ty208, 8), (209, ty209, 8), (210, ty210, 24), (211, ty211, 8), (213, ty213, 8), (214, ty214, 8), (215, ty215, 8), (216, ty216, 8), (217, ty217, 8), (219, ty219, 8), (220, ty220, 8), (221, ty221, 8), (223, ty223, 8), (224, ty224, 8), (225, ty225, 4), (226, ty226, 8), (227, ty227, 8), (228, ty228, 8), (229, ty229, 8), (230, ty230, 8), (231, ty231, 8), (232, ty232, 8), (233, ty233, 8), (234, ty234, 8), (235, ty235, 8), (236, ty236, 8), (237, ty237, 8), (238, ty238, 8), (239, ty239, 8), (240, ty240, 8), (241, ty241, 8), (242, ty242, 8), (243, ty243, 8), (245, ty245, 8), (246, ty246, 8), (252, ty252, 8), (255, ty255, 8), (256, ty256, 8), (22, ty22, 24), (29, ty29, 24), (37, ty37, 24), (38, ty38, 24), (39, ty39, 48), (40, ty40, 48), (43, ty43, 24), (57, ty57, 24), (62, ty62, 24), (70, ty70, 24), (78, ty78, 24), (82, ty82, 32), (83, ty83, 32), (94, ty94, 24), (108, ty108, 24), (109, ty109, 48), (110, ty110, 48), (121, ty121, 56), (122, ty122, 56), (183, ty183, 48), (184, ty184, 48), (24, ty24, 24), (25, ty25, 32), (26, ty26, 32), (36, ty36, 24), (44, ty44, 24), (45, ty45, 48), (46, ty46, 48), (115, ty115, 24), (116, ty116, 48), (117, ty117, 48), (49, ty49, 24)]
noncomputable abbrev C : Ctx := mkCtx tys
theorem mix : Tryz.prog.follows .mixedOrders = true := by kernel_rfl
theorem C_ok : CtxOk Tryz.prog C := ctx_ok (by kernel_rfl)
def tab0 : Tab := fun _ => none
theorem tab0_ok : TabOk Tryz.prog tab0 := fun _ _ h => by cases h
theorem tab_cons {tab : Tab} {f : FuncId} {F : Am.Fn} (h : TabOk Tryz.prog tab) (hF : FnOk Tryz.prog f F) : TabOk Tryz.prog (fun g => bif g == f then some F else tab g) := by
  intro g G hg
  dsimp only at hg
  cases hc : g == f with
  | true =>
    rw [hc] at hg
    simp only [cond_true, Option.some.injEq] at hg
    rw [beq_iff_eq] at hc
    subst hc hg
    exact hF
  | false =>
    rw [hc] at hg
    exact h g G hg
def fuel : Nat := 2000
theorem fuel_eq : fuel = 1999 + 1 := rfl
abbrev Rat := Int × Int
abbrev Atm := List Int × Int × Bool
abbrev Cel := Int × List Atm
abbrev Reg := Int × List Cel
abbrev Rw := ByteArray × Cel
abbrev Rel := ByteArray × Int × List Rw
abbrev Nod := Int × Atm × ByteArray × ByteArray × List Int × Int × Int × Int
abbrev Sup := Cel × List (List Int)
abbrev Viw := List Nod × List Sup
abbrev Opn := Int × ByteArray × ByteArray × Cel × List Int
abbrev Sto := List (List Nod) × List (List Rel)
noncomputable def Fw_szIntS : Am.Fn := mkFn C tab0 [0, 1, 2, 3] 12 (fun _ => none) ⟨fun _ _ => none, fun s => Nat.testBit 0 s, fun _ => []⟩ [(ty59, .ro), (ty3, .ro)] [(ty3, 0)] [.tmp 4] (Tryz.f148.body.getD .skip)
theorem Fw_szIntS_ok : FnOk Tryz.prog 148 Fw_szIntS := by
  unfold Fw_szIntS
  exact mkFn_ok (fn := Tryz.f148) mix C_ok tab0_ok Tryz.func148 (by kernel_rfl) (by kernel_rfl) (by kernel_rfl) (by kernel_rfl) (by decide)
noncomputable def tab_w_szIntS : Tab := fun f => bif f == 148 then some Fw_szIntS else tab0 f
theorem tab_w_szIntS_ok : TabOk Tryz.prog tab_w_szIntS := tab_cons tab0_ok Fw_szIntS_ok
noncomputable def Fw_szAtom : Am.Fn := mkFn C tab_w_szIntS [0, 1, 2, 3, 5] 12 (fun _ => none) ⟨fun _ _ => none, fun s => Nat.testBit 4 s, fun r => bif r == 2 then [6] else []⟩ [(ty161, .ro), (ty3, .ro)] [(ty3, 0)] [.tmp 4] (Tryz.f147.body.getD .skip)
theorem Fw_szAtom_ok : FnOk Tryz.prog 147 Fw_szAtom := by
  unfold Fw_szAtom
  exact mkFn_ok (fn := Tryz.f147) mix C_ok tab_w_szIntS_ok Tryz.func147 (by kernel_rfl) (by kernel_rfl) (by kernel_rfl) (by kernel_rfl) (by decide)
noncomputable def tab_w_szAtom : Tab := fun f => bif f == 147 then some Fw_szAtom else tab_w_szIntS f
theorem tab_w_szAtom_ok : TabOk Tryz.prog tab_w_szAtom := tab_cons tab_w_szIntS_ok Fw_szAtom_ok
noncomputable def Fw_szAtomS : Am.Fn := mkFn C tab_w_szAtom [0, 1, 2, 3, 5, 18, 20] 27 (fun k => bif k == 1000005 then some 35 else none) ⟨fun _ _ => none, fun s => Nat.testBit 0 s, fun _ => []⟩ [(ty165, .ro), (ty3, .ro)] [(ty3, 0)] [.tmp 4] (Tryz.f184.body.getD .skip)
theorem Fw_szAtomS_ok : FnOk Tryz.prog 184 Fw_szAtomS := by
  unfold Fw_szAtomS
  exact mkFn_ok (fn := Tryz.f184) mix C_ok tab_w_szAtom_ok Tryz.func184 (by kernel_rfl) (by kernel_rfl) (by kernel_rfl) (by kernel_rfl) (by decide)
noncomputable def tab_w_szAtomS : Tab := fun f => bif f == 184 then some Fw_szAtomS else tab_w_szAtom f
theorem tab_w_szAtomS_ok : TabOk Tryz.prog tab_w_szAtomS := tab_cons tab_w_szAtom_ok Fw_szAtomS_ok
noncomputable def Fw_szCell : Am.Fn := mkFn C tab_w_szAtomS [0, 1, 2, 3, 5] 12 (fun _ => none) ⟨fun _ _ => none, fun s => Nat.testBit 4 s, fun r => bif r == 2 then [6] else []⟩ [(ty167, .ro), (ty3, .ro)] [(ty3, 0)] [.tmp 4] (Tryz.f149.body.getD .skip)
theorem Fw_szCell_ok : FnOk Tryz.prog 149 Fw_szCell := by
  unfold Fw_szCell
  exact mkFn_ok (fn := Tryz.f149) mix C_ok tab_w_szAtomS_ok Tryz.func149 (by kernel_rfl) (by kernel_rfl) (by kernel_rfl) (by kernel_rfl) (by decide)
noncomputable def tab_w_szCell : Tab := fun f => bif f == 149 then some Fw_szCell else tab_w_szAtomS f
theorem tab_w_szCell_ok : TabOk Tryz.prog tab_w_szCell := tab_cons tab_w_szAtomS_ok Fw_szCell_ok
noncomputable def Fw_szRow : Am.Fn := mkFn C tab_w_szCell [0, 1, 2, 3, 6, 12] 19 (fun k => bif k == 1 then some 22 else none) ⟨fun _ _ => none, fun s => Nat.testBit 4 s, fun r => bif r == 2 then [13] else []⟩ [(ty204, .ro), (ty3, .ro)] [(ty3, 0)] [.tmp 4] (Tryz.f146.body.getD .skip)
theorem Fw_szRow_ok : FnOk Tryz.prog 146 Fw_szRow := by
  unfold Fw_szRow
  exact mkFn_ok (fn := Tryz.f146) mix C_ok tab_w_szCell_ok Tryz.func146 (by kernel_rfl) (by kernel_rfl) (by kernel_rfl) (by kernel_rfl) (by decide)
noncomputable def tab_w_szRow : Tab := fun f => bif f == 146 then some Fw_szRow else tab_w_szCell f
theorem tab_w_szRow_ok : TabOk Tryz.prog tab_w_szRow := tab_cons tab_w_szCell_ok Fw_szRow_ok
noncomputable def Fw_szRowS : Am.Fn := mkFn C tab_w_szRow [0, 1, 2, 3, 5, 18, 20] 27 (fun k => bif k == 1000005 then some 35 else none) ⟨fun _ _ => none, fun s => Nat.testBit 0 s, fun _ => []⟩ [(ty108, .ro), (ty3, .ro)] [(ty3, 0)] [.tmp 4] (Tryz.f107.body.getD .skip)
theorem Fw_szRowS_ok : FnOk Tryz.prog 107 Fw_szRowS := by
  unfold Fw_szRowS
  exact mkFn_ok (fn := Tryz.f107) mix C_ok tab_w_szRow_ok Tryz.func107 (by kernel_rfl) (by kernel_rfl) (by kernel_rfl) (by kernel_rfl) (by decide)
noncomputable def tab_w_szRowS : Tab := fun f => bif f == 107 then some Fw_szRowS else tab_w_szRow f
theorem tab_w_szRowS_ok : TabOk Tryz.prog tab_w_szRowS := tab_cons tab_w_szRow_ok Fw_szRowS_ok
noncomputable def Fw_szRelation : Am.Fn := mkFn C tab_w_szRowS [0, 1, 2, 3, 6, 12] 19 (fun k => bif k == 1 then some 22 else none) ⟨fun _ _ => none, fun s => Nat.testBit 4 s, fun r => bif r == 2 then [13] else []⟩ [(ty110, .ro), (ty3, .ro)] [(ty3, 0)] [.tmp 4] (Tryz.f50.body.getD .skip)
theorem Fw_szRelation_ok : FnOk Tryz.prog 50 Fw_szRelation := by
  unfold Fw_szRelation
  exact mkFn_ok (fn := Tryz.f50) mix C_ok tab_w_szRowS_ok Tryz.func50 (by kernel_rfl) (by kernel_rfl) (by kernel_rfl) (by kernel_rfl) (by decide)
noncomputable def tab_w_szRelation : Tab := fun f => bif f == 50 then some Fw_szRelation else tab_w_szRowS f
theorem tab_w_szRelation_ok : TabOk Tryz.prog tab_w_szRelation := tab_cons tab_w_szRowS_ok Fw_szRelation_ok
noncomputable def Fw_szRelationS : Am.Fn := mkFn C tab_w_szRelation [0, 1, 2, 3, 5, 18, 20] 27 (fun k => bif k == 1000005 then some 35 else none) ⟨fun _ _ => none, fun s => Nat.testBit 0 s, fun _ => []⟩ [(ty36, .ro), (ty3, .ro)] [(ty3, 0)] [.tmp 4] (Tryz.f15.body.getD .skip)
theorem Fw_szRelationS_ok : FnOk Tryz.prog 15 Fw_szRelationS := by
  unfold Fw_szRelationS
  exact mkFn_ok (fn := Tryz.f15) mix C_ok tab_w_szRelation_ok Tryz.func15 (by kernel_rfl) (by kernel_rfl) (by kernel_rfl) (by kernel_rfl) (by decide)
noncomputable def tab_w_szRelationS : Tab := fun f => bif f == 15 then some Fw_szRelationS else tab_w_szRelation f
theorem tab_w_szRelationS_ok : TabOk Tryz.prog tab_w_szRelationS := tab_cons tab_w_szRelation_ok Fw_szRelationS_ok
noncomputable def Fw_szNode : Am.Fn := mkFn C tab_w_szRelationS [0, 1, 2, 3, 5, 12, 19, 25] 32 (fun k => bif k == 4 then some 22 else bif k == 7 then some 22 else none) ⟨fun _ _ => none, fun s => Nat.testBit 4 s, fun r => bif r == 2 then [6, 26] else []⟩ [(ty163, .ro), (ty3, .ro)] [(ty3, 0)] [.tmp 4] (Tryz.f108.body.getD .skip)
theorem Fw_szNode_ok : FnOk Tryz.prog 108 Fw_szNode := by
  unfold Fw_szNode
  exact mkFn_ok (fn := Tryz.f108) mix C_ok tab_w_szRelationS_ok Tryz.func108 (by kernel_rfl) (by kernel_rfl) (by kernel_rfl) (by kernel_rfl) (by decide)
noncomputable def tab_w_szNode : Tab := fun f => bif f == 108 then some Fw_szNode else tab_w_szRelationS f
theorem tab_w_szNode_ok : TabOk Tryz.prog tab_w_szNode := tab_cons tab_w_szRelationS_ok Fw_szNode_ok
noncomputable def Fw_szNodeS : Am.Fn := mkFn C tab_w_szNode [0, 1, 2, 3, 5, 18, 20] 27 (fun k => bif k == 1000005 then some 35 else none) ⟨fun _ _ => none, fun s => Nat.testBit 0 s, fun _ => []⟩ [(ty37, .ro), (ty3, .ro)] [(ty3, 0)] [.tmp 4] (Tryz.f51.body.getD .skip)
theorem Fw_szNodeS_ok : FnOk Tryz.prog 51 Fw_szNodeS := by
  unfold Fw_szNodeS
  exact mkFn_ok (fn := Tryz.f51) mix C_ok tab_w_szNode_ok Tryz.func51 (by kernel_rfl) (by kernel_rfl) (by kernel_rfl) (by kernel_rfl) (by decide)
noncomputable def tab_w_szNodeS : Tab := fun f => bif f == 51 then some Fw_szNodeS else tab_w_szNode f
theorem tab_w_szNodeS_ok : TabOk Tryz.prog tab_w_szNodeS := tab_cons tab_w_szNode_ok Fw_szNodeS_ok
noncomputable def Fw_szIntSS : Am.Fn := mkFn C tab_w_szNodeS [0, 1, 2, 3, 5, 18, 20] 27 (fun k => bif k == 1000005 then some 35 else none) ⟨fun _ _ => none, fun s => Nat.testBit 0 s, fun _ => []⟩ [(ty120, .ro), (ty3, .ro)] [(ty3, 0)] [.tmp 4] (Tryz.f150.body.getD .skip)
theorem Fw_szIntSS_ok : FnOk Tryz.prog 150 Fw_szIntSS := by
  unfold Fw_szIntSS
  exact mkFn_ok (fn := Tryz.f150) mix C_ok tab_w_szNodeS_ok Tryz.func150 (by kernel_rfl) (by kernel_rfl) (by kernel_rfl) (by kernel_rfl) (by decide)
noncomputable def tab_w_szIntSS : Tab := fun f => bif f == 150 then some Fw_szIntSS else tab_w_szNodeS f
theorem tab_w_szIntSS_ok : TabOk Tryz.prog tab_w_szIntSS := tab_cons tab_w_szNodeS_ok Fw_szIntSS_ok
noncomputable def Fw_szSupport : Am.Fn := mkFn C tab_w_szIntSS [0, 1, 2, 3, 5, 11] 18 (fun _ => none) ⟨fun _ _ => none, fun s => Nat.testBit 4 s, fun r => bif r == 2 then [6, 12] else []⟩ [(ty169, .ro), (ty3, .ro)] [(ty3, 0)] [.tmp 4] (Tryz.f109.body.getD .skip)
theorem Fw_szSupport_ok : FnOk Tryz.prog 109 Fw_szSupport := by
  unfold Fw_szSupport
  exact mkFn_ok (fn := Tryz.f109) mix C_ok tab_w_szIntSS_ok Tryz.func109 (by kernel_rfl) (by kernel_rfl) (by kernel_rfl) (by kernel_rfl) (by decide)
noncomputable def tab_w_szSupport : Tab := fun f => bif f == 109 then some Fw_szSupport else tab_w_szIntSS f
theorem tab_w_szSupport_ok : TabOk Tryz.prog tab_w_szSupport := tab_cons tab_w_szIntSS_ok Fw_szSupport_ok
noncomputable def Fw_szSupportS : Am.Fn := mkFn C tab_w_szSupport [0, 1, 2, 3, 5, 18, 20] 27 (fun k => bif k == 1000005 then some 35 else none) ⟨fun _ _ => none, fun s => Nat.testBit 0 s, fun _ => []⟩ [(ty38, .ro), (ty3, .ro)] [(ty3, 0)] [.tmp 4] (Tryz.f52.body.getD .skip)
theorem Fw_szSupportS_ok : FnOk Tryz.prog 52 Fw_szSupportS := by
  unfold Fw_szSupportS
  exact mkFn_ok (fn := Tryz.f52) mix C_ok tab_w_szSupport_ok Tryz.func52 (by kernel_rfl) (by kernel_rfl) (by kernel_rfl) (by kernel_rfl) (by decide)
noncomputable def tab_w_szSupportS : Tab := fun f => bif f == 52 then some Fw_szSupportS else tab_w_szSupport f
theorem tab_w_szSupportS_ok : TabOk Tryz.prog tab_w_szSupportS := tab_cons tab_w_szSupport_ok Fw_szSupportS_ok
noncomputable def Fw_szView : Am.Fn := mkFn C tab_w_szSupportS [0, 1, 2, 3, 5, 11] 18 (fun _ => none) ⟨fun _ _ => none, fun s => Nat.testBit 4 s, fun r => bif r == 2 then [6, 12] else []⟩ [(ty40, .ro), (ty3, .ro)] [(ty3, 0)] [.tmp 4] (Tryz.f16.body.getD .skip)
theorem Fw_szView_ok : FnOk Tryz.prog 16 Fw_szView := by
  unfold Fw_szView
  exact mkFn_ok (fn := Tryz.f16) mix C_ok tab_w_szSupportS_ok Tryz.func16 (by kernel_rfl) (by kernel_rfl) (by kernel_rfl) (by kernel_rfl) (by decide)
noncomputable def tab_w_szView : Tab := fun f => bif f == 16 then some Fw_szView else tab_w_szSupportS f
theorem tab_w_szView_ok : TabOk Tryz.prog tab_w_szView := tab_cons tab_w_szSupportS_ok Fw_szView_ok
noncomputable def Fw_toIntS : Am.Fn := mkFn C tab_w_szView [0, 1, 3, 4, 14, 16, 18] 22 (fun k => bif k == 1000003 then some 25 else none) ⟨fun _ _ => none, fun s => Nat.testBit 0 s, fun _ => []⟩ [(ty59, .ro)] [(ty59, 1)] [.tmp 2] (Tryz.f154.body.getD .skip)
theorem Fw_toIntS_ok : FnOk Tryz.prog 154 Fw_toIntS := by
  unfold Fw_toIntS
  exact mkFn_ok (fn := Tryz.f154) mix C_ok tab_w_szView_ok Tryz.func154 (by kernel_rfl) (by kernel_rfl) (by kernel_rfl) (by kernel_rfl) (by decide)
noncomputable def tab_w_toIntS : Tab := fun f => bif f == 154 then some Fw_toIntS else tab_w_szView f
theorem tab_w_toIntS_ok : TabOk Tryz.prog tab_w_toIntS := tab_cons tab_w_szView_ok Fw_toIntS_ok
noncomputable def Fw_toAtom : Am.Fn := mkFn C tab_w_toIntS [0, 1, 2, 3, 4, 8, 11] 15 (fun k => bif k == 2 then some 14 else bif k == 3 then some 14 else bif k == 4 then some 14 else bif k == 5 then some 12 else none) ⟨fun _ _ => none, fun s => Nat.testBit 14 s, fun r => bif r == 1 then [5] else bif r == 2 then [] else bif r == 3 then [14] else []⟩ [(ty161, .ro)] [(ty85, 1)] [.cell 2 85] (Tryz.f153.body.getD .skip)
theorem Fw_toAtom_ok : FnOk Tryz.prog 153 Fw_toAtom := by
  unfold Fw_toAtom
  exact mkFn_ok (fn := Tryz.f153) mix C_ok tab_w_toIntS_ok Tryz.func153 (by kernel_rfl) (by kernel_rfl) (by kernel_rfl) (by kernel_rfl) (by decide)
noncomputable def tab_w_toAtom : Tab := fun f => bif f == 153 then some Fw_toAtom else tab_w_toIntS f
theorem tab_w_toAtom_ok : TabOk Tryz.prog tab_w_toAtom := tab_cons tab_w_toIntS_ok Fw_toAtom_ok
noncomputable def Fw_toAtomS : Am.Fn := mkFn C tab_w_toAtom [0, 1, 3, 4, 14, 16, 18] 23 (fun k => bif k == 1000003 then some 25 else none) ⟨fun _ _ => none, fun s => Nat.testBit 0 s, fun _ => []⟩ [(ty165, .ro)] [(ty78, 2)] [.tmp 2] (Tryz.f187.body.getD .skip)
theorem Fw_toAtomS_ok : FnOk Tryz.prog 187 Fw_toAtomS := by
  unfold Fw_toAtomS
  exact mkFn_ok (fn := Tryz.f187) mix C_ok tab_w_toAtom_ok Tryz.func187 (by kernel_rfl) (by kernel_rfl) (by kernel_rfl) (by kernel_rfl) (by decide)
noncomputable def tab_w_toAtomS : Tab := fun f => bif f == 187 then some Fw_toAtomS else tab_w_toAtom f
theorem tab_w_toAtomS_ok : TabOk Tryz.prog tab_w_toAtomS := tab_cons tab_w_toAtom_ok Fw_toAtomS_ok
noncomputable def Fw_toCell : Am.Fn := mkFn C tab_w_toAtomS [0, 1, 2, 3, 4, 7] 12 (fun k => bif k == 2 then some 14 else bif k == 3 then some 14 else bif k == 4 then some 12 else none) ⟨fun _ _ => none, fun s => Nat.testBit 14 s, fun r => bif r == 1 then [8] else bif r == 2 then [] else bif r == 3 then [11] else []⟩ [(ty167, .ro)] [(ty83, 2)] [.cell 2 83] (Tryz.f155.body.getD .skip)
theorem Fw_toCell_ok : FnOk Tryz.prog 155 Fw_toCell := by
  unfold Fw_toCell
  exact mkFn_ok (fn := Tryz.f155) mix C_ok tab_w_toAtomS_ok Tryz.func155 (by kernel_rfl) (by kernel_rfl) (by kernel_rfl) (by kernel_rfl) (by decide)
noncomputable def tab_w_toCell : Tab := fun f => bif f == 155 then some Fw_toCell else tab_w_toAtomS f
theorem tab_w_toCell_ok : TabOk Tryz.prog tab_w_toCell := tab_cons tab_w_toAtomS_ok Fw_toCell_ok
noncomputable def Fw_toRow : Am.Fn := mkFn C tab_w_toCell [0, 1, 2, 3, 4, 7] 12 (fun k => bif k == 2 then some 14 else bif k == 3 then some 14 else bif k == 4 then some 12 else none) ⟨fun _ _ => none, fun s => Nat.testBit 14 s, fun r => bif r == 1 then [8] else bif r == 2 then [] else bif r == 3 then [11] else []⟩ [(ty204, .ro)] [(ty184, 2)] [.cell 2 184] (Tryz.f152.body.getD .skip)
theorem Fw_toRow_ok : FnOk Tryz.prog 152 Fw_toRow := by
  unfold Fw_toRow
  exact mkFn_ok (fn := Tryz.f152) mix C_ok tab_w_toCell_ok Tryz.func152 (by kernel_rfl) (by kernel_rfl) (by kernel_rfl) (by kernel_rfl) (by decide)
noncomputable def tab_w_toRow : Tab := fun f => bif f == 152 then some Fw_toRow else tab_w_toCell f
theorem tab_w_toRow_ok : TabOk Tryz.prog tab_w_toRow := tab_cons tab_w_toCell_ok Fw_toRow_ok
noncomputable def Fw_toRowS : Am.Fn := mkFn C tab_w_toRow [0, 1, 3, 4, 14, 16, 18] 23 (fun k => bif k == 1000003 then some 25 else none) ⟨fun _ _ => none, fun s => Nat.testBit 0 s, fun _ => []⟩ [(ty108, .ro)] [(ty115, 3)] [.tmp 2] (Tryz.f112.body.getD .skip)
theorem Fw_toRowS_ok : FnOk Tryz.prog 112 Fw_toRowS := by
  unfold Fw_toRowS
  exact mkFn_ok (fn := Tryz.f112) mix C_ok tab_w_toRow_ok Tryz.func112 (by kernel_rfl) (by kernel_rfl) (by kernel_rfl) (by kernel_rfl) (by decide)
noncomputable def tab_w_toRowS : Tab := fun f => bif f == 112 then some Fw_toRowS else tab_w_toRow f
theorem tab_w_toRowS_ok : TabOk Tryz.prog tab_w_toRowS := tab_cons tab_w_toRow_ok Fw_toRowS_ok
noncomputable def Fw_toRelation : Am.Fn := mkFn C tab_w_toRowS [0, 1, 2, 3, 4, 7, 10] 15 (fun k => bif k == 2 then some 14 else bif k == 3 then some 14 else bif k == 4 then some 14 else bif k == 5 then some 12 else none) ⟨fun _ _ => none, fun s => Nat.testBit 14 s, fun r => bif r == 1 then [11] else bif r == 2 then [] else bif r == 3 then [14] else []⟩ [(ty110, .ro)] [(ty117, 3)] [.cell 2 117] (Tryz.f59.body.getD .skip)
theorem Fw_toRelation_ok : FnOk Tryz.prog 59 Fw_toRelation := by
  unfold Fw_toRelation
  exact mkFn_ok (fn := Tryz.f59) mix C_ok tab_w_toRowS_ok Tryz.func59 (by kernel_rfl) (by kernel_rfl) (by kernel_rfl) (by kernel_rfl) (by decide)
noncomputable def tab_w_toRelation : Tab := fun f => bif f == 59 then some Fw_toRelation else tab_w_toRowS f
theorem tab_w_toRelation_ok : TabOk Tryz.prog tab_w_toRelation := tab_cons tab_w_toRowS_ok Fw_toRelation_ok
noncomputable def Fw_toRelationS : Am.Fn := mkFn C tab_w_toRelation [0, 1, 3, 4, 14, 16, 18] 23 (fun k => bif k == 1000003 then some 25 else none) ⟨fun _ _ => none, fun s => Nat.testBit 0 s, fun _ => []⟩ [(ty36, .ro)] [(ty49, 4)] [.tmp 2] (Tryz.f18.body.getD .skip)
theorem Fw_toRelationS_ok : FnOk Tryz.prog 18 Fw_toRelationS := by
  unfold Fw_toRelationS
  exact mkFn_ok (fn := Tryz.f18) mix C_ok tab_w_toRelation_ok Tryz.func18 (by kernel_rfl) (by kernel_rfl) (by kernel_rfl) (by kernel_rfl) (by decide)
noncomputable def tab_w_toRelationS : Tab := fun f => bif f == 18 then some Fw_toRelationS else tab_w_toRelation f
theorem tab_w_toRelationS_ok : TabOk Tryz.prog tab_w_toRelationS := tab_cons tab_w_toRelation_ok Fw_toRelationS_ok
noncomputable def Fw_toNode : Am.Fn := mkFn C tab_w_toRelationS [0, 1, 2, 3, 4, 7, 11, 14, 17, 21, 24, 27] 31 (fun k => bif k == 2 then some 14 else bif k == 3 then some 14 else bif k == 4 then some 14 else bif k == 5 then some 14 else bif k == 6 then some 14 else bif k == 7 then some 14 else bif k == 8 then some 14 else bif k == 9 then some 14 else bif k == 10 then some 12 else none) ⟨fun _ _ => none, fun s => Nat.testBit 14 s, fun r => bif r == 1 then [8, 18] else bif r == 2 then [] else bif r == 3 then [30] else []⟩ [(ty163, .ro)] [(ty173, 1)] [.cell 2 173] (Tryz.f113.body.getD .skip)
theorem Fw_toNode_ok : FnOk Tryz.prog 113 Fw_toNode := by
  unfold Fw_toNode
  exact mkFn_ok (fn := Tryz.f113) mix C_ok tab_w_toRelationS_ok Tryz.func113 (by kernel_rfl) (by kernel_rfl) (by kernel_rfl) (by kernel_rfl) (by decide)
noncomputable def tab_w_toNode : Tab := fun f => bif f == 113 then some Fw_toNode else tab_w_toRelationS f
theorem tab_w_toNode_ok : TabOk Tryz.prog tab_w_toNode := tab_cons tab_w_toRelationS_ok Fw_toNode_ok
noncomputable def Fw_toNodeS : Am.Fn := mkFn C tab_w_toNode [0, 1, 3, 4, 14, 16, 18] 23 (fun k => bif k == 1000003 then some 25 else none) ⟨fun _ _ => none, fun s => Nat.testBit 0 s, fun _ => []⟩ [(ty37, .ro)] [(ty43, 2)] [.tmp 2] (Tryz.f60.body.getD .skip)
theorem Fw_toNodeS_ok : FnOk Tryz.prog 60 Fw_toNodeS := by
  unfold Fw_toNodeS
  exact mkFn_ok (fn := Tryz.f60) mix C_ok tab_w_toNode_ok Tryz.func60 (by kernel_rfl) (by kernel_rfl) (by kernel_rfl) (by kernel_rfl) (by decide)
noncomputable def tab_w_toNodeS : Tab := fun f => bif f == 60 then some Fw_toNodeS else tab_w_toNode f
theorem tab_w_toNodeS_ok : TabOk Tryz.prog tab_w_toNodeS := tab_cons tab_w_toNode_ok Fw_toNodeS_ok
noncomputable def Fw_toIntSS : Am.Fn := mkFn C tab_w_toNodeS [0, 1, 3, 4, 14, 16, 18] 23 (fun k => bif k == 1000003 then some 25 else none) ⟨fun _ _ => none, fun s => Nat.testBit 0 s, fun _ => []⟩ [(ty120, .ro)] [(ty120, 2)] [.tmp 2] (Tryz.f156.body.getD .skip)
theorem Fw_toIntSS_ok : FnOk Tryz.prog 156 Fw_toIntSS := by
  unfold Fw_toIntSS
  exact mkFn_ok (fn := Tryz.f156) mix C_ok tab_w_toNodeS_ok Tryz.func156 (by kernel_rfl) (by kernel_rfl) (by kernel_rfl) (by kernel_rfl) (by decide)
noncomputable def tab_w_toIntSS : Tab := fun f => bif f == 156 then some Fw_toIntSS else tab_w_toNodeS f
theorem tab_w_toIntSS_ok : TabOk Tryz.prog tab_w_toIntSS := tab_cons tab_w_toNodeS_ok Fw_toIntSS_ok
noncomputable def Fw_toSupport : Am.Fn := mkFn C tab_w_toIntSS [0, 1, 2, 3, 4, 8] 13 (fun k => bif k == 2 then some 14 else bif k == 3 then some 14 else bif k == 4 then some 12 else none) ⟨fun _ _ => none, fun s => Nat.testBit 14 s, fun r => bif r == 1 then [5, 9] else bif r == 2 then [] else bif r == 3 then [12] else []⟩ [(ty169, .ro)] [(ty122, 2)] [.cell 2 122] (Tryz.f114.body.getD .skip)
theorem Fw_toSupport_ok : FnOk Tryz.prog 114 Fw_toSupport := by
  unfold Fw_toSupport
  exact mkFn_ok (fn := Tryz.f114) mix C_ok tab_w_toIntSS_ok Tryz.func114 (by kernel_rfl) (by kernel_rfl) (by kernel_rfl) (by kernel_rfl) (by decide)
noncomputable def tab_w_toSupport : Tab := fun f => bif f == 114 then some Fw_toSupport else tab_w_toIntSS f
theorem tab_w_toSupport_ok : TabOk Tryz.prog tab_w_toSupport := tab_cons tab_w_toIntSS_ok Fw_toSupport_ok
noncomputable def Fw_toSupportS : Am.Fn := mkFn C tab_w_toSupport [0, 1, 3, 4, 14, 16, 18] 23 (fun k => bif k == 1000003 then some 25 else none) ⟨fun _ _ => none, fun s => Nat.testBit 0 s, fun _ => []⟩ [(ty38, .ro)] [(ty44, 3)] [.tmp 2] (Tryz.f61.body.getD .skip)
theorem Fw_toSupportS_ok : FnOk Tryz.prog 61 Fw_toSupportS := by
  unfold Fw_toSupportS
  exact mkFn_ok (fn := Tryz.f61) mix C_ok tab_w_toSupport_ok Tryz.func61 (by kernel_rfl) (by kernel_rfl) (by kernel_rfl) (by kernel_rfl) (by decide)
noncomputable def tab_w_toSupportS : Tab := fun f => bif f == 61 then some Fw_toSupportS else tab_w_toSupport f
theorem tab_w_toSupportS_ok : TabOk Tryz.prog tab_w_toSupportS := tab_cons tab_w_toSupport_ok Fw_toSupportS_ok
noncomputable def Fw_toView : Am.Fn := mkFn C tab_w_toSupportS [0, 1, 2, 3, 4, 8] 13 (fun k => bif k == 2 then some 14 else bif k == 3 then some 14 else bif k == 4 then some 12 else none) ⟨fun _ _ => none, fun s => Nat.testBit 14 s, fun r => bif r == 1 then [5, 9] else bif r == 2 then [] else bif r == 3 then [12] else []⟩ [(ty40, .ro)] [(ty46, 3)] [.cell 2 46] (Tryz.f19.body.getD .skip)
theorem Fw_toView_ok : FnOk Tryz.prog 19 Fw_toView := by
  unfold Fw_toView
  exact mkFn_ok (fn := Tryz.f19) mix C_ok tab_w_toSupportS_ok Tryz.func19 (by kernel_rfl) (by kernel_rfl) (by kernel_rfl) (by kernel_rfl) (by decide)
noncomputable def tab_w_toView : Tab := fun f => bif f == 19 then some Fw_toView else tab_w_toSupportS f
theorem tab_w_toView_ok : TabOk Tryz.prog tab_w_toView := tab_cons tab_w_toSupportS_ok Fw_toView_ok
noncomputable def Fs_l1In : Am.Fn := mkFn C tab_w_toView [0, 1, 2, 3, 4, 5] 15 (fun _ => none) ⟨fun _ _ => none, fun s => Nat.testBit 0 s, fun _ => []⟩ [(ty3, .ro), (ty3, .ro), (ty3, .ro)] [(ty4, 0)] [.tmp 6] (Tryz.f54.body.getD .skip)
theorem Fs_l1In_ok : FnOk Tryz.prog 54 Fs_l1In := by
  unfold Fs_l1In
  exact mkFn_ok (fn := Tryz.f54) mix C_ok tab_w_toView_ok Tryz.func54 (by kernel_rfl) (by kernel_rfl) (by kernel_rfl) (by kernel_rfl) (by decide)
noncomputable def tab_s_l1In : Tab := fun f => bif f == 54 then some Fs_l1In else tab_w_toView f
theorem tab_s_l1In_ok : TabOk Tryz.prog tab_s_l1In := tab_cons tab_w_toView_ok Fs_l1In_ok
noncomputable def Fs_IsNumber : Am.Fn := mkFn C tab_s_l1In [0, 1] 5 (fun _ => none) ⟨fun _ _ => none, fun s => Nat.testBit 0 s, fun _ => []⟩ [(ty3, .ro)] [(ty4, 0)] [.tmp 2] (Tryz.f128.body.getD .skip)
theorem Fs_IsNumber_ok : FnOk Tryz.prog 128 Fs_IsNumber := by
  unfold Fs_IsNumber
  exact mkFn_ok (fn := Tryz.f128) mix C_ok tab_s_l1In_ok Tryz.func128 (by kernel_rfl) (by kernel_rfl) (by kernel_rfl) (by kernel_rfl) (by decide)
noncomputable def tab_s_IsNumber : Tab := fun f => bif f == 128 then some Fs_IsNumber else tab_s_l1In f
theorem tab_s_IsNumber_ok : TabOk Tryz.prog tab_s_IsNumber := tab_cons tab_s_l1In_ok Fs_IsNumber_ok
noncomputable def Fs_l1Abs : Am.Fn := mkFn C tab_s_IsNumber [0, 1] 7 (fun _ => none) ⟨fun _ _ => none, fun s => Nat.testBit 0 s, fun _ => []⟩ [(ty3, .ro)] [(ty3, 0)] [.tmp 2] (Tryz.f131.body.getD .skip)
theorem Fs_l1Abs_ok : FnOk Tryz.prog 131 Fs_l1Abs := by
  unfold Fs_l1Abs
  exact mkFn_ok (fn := Tryz.f131) mix C_ok tab_s_IsNumber_ok Tryz.func131 (by kernel_rfl) (by kernel_rfl) (by kernel_rfl) (by kernel_rfl) (by decide)
noncomputable def tab_s_l1Abs : Tab := fun f => bif f == 131 then some Fs_l1Abs else tab_s_IsNumber f
theorem tab_s_l1Abs_ok : TabOk Tryz.prog tab_s_l1Abs := tab_cons tab_s_IsNumber_ok Fs_l1Abs_ok
noncomputable def Fs_l2Gcd : Am.Fn := mkFn C tab_s_l1Abs [0, 1, 2, 3, 5, 6, 7, 16, 18] 28 (fun k => bif k == 1000003 then some 97 else bif k == 1000006 then some 225 else none) ⟨fun _ _ => none, fun s => Nat.testBit 0 s, fun _ => []⟩ [(ty59, .ro), (ty3, .ro)] [(ty3, 0)] [.tmp 4] (Tryz.f88.body.getD .skip)
theorem Fs_l2Gcd_ok : FnOk Tryz.prog 88 Fs_l2Gcd := by
  unfold Fs_l2Gcd
  exact mkFn_ok (fn := Tryz.f88) mix C_ok tab_s_l1Abs_ok Tryz.func88 (by kernel_rfl) (by kernel_rfl) (by kernel_rfl) (by kernel_rfl) (by decide)
noncomputable def tab_s_l2Gcd : Tab := fun f => bif f == 88 then some Fs_l2Gcd else tab_s_l1Abs f
theorem tab_s_l2Gcd_ok : TabOk Tryz.prog tab_s_l2Gcd := tab_cons tab_s_l1Abs_ok Fs_l2Gcd_ok
noncomputable def Fs_IsAtom : Am.Fn := mkFn C tab_s_l2Gcd [0, 1, 3, 4, 9, 15, 21, 22, 24, 28, 30] 34 (fun k => bif k == 1 then some 6 else bif k == 4 then some 14 else bif k == 1000004 then some 10 else none) ⟨fun _ _ => none, fun s => Nat.testBit 2 s, fun r => bif r == 1 then [5, 16, 22, 24, 29] else []⟩ [(ty85, .ro)] [(ty4, 0)] [.tmp 2] (Tryz.f89.body.getD .skip)
theorem Fs_IsAtom_ok : FnOk Tryz.prog 89 Fs_IsAtom := by
  unfold Fs_IsAtom
  exact mkFn_ok (fn := Tryz.f89) mix C_ok tab_s_l2Gcd_ok Tryz.func89 (by kernel_rfl) (by kernel_rfl) (by kernel_rfl) (by kernel_rfl) (by decide)
noncomputable def tab_s_IsAtom : Tab := fun f => bif f == 89 then some Fs_IsAtom else tab_s_l2Gcd f
theorem tab_s_IsAtom_ok : TabOk Tryz.prog tab_s_IsAtom := tab_cons tab_s_l2Gcd_ok Fs_IsAtom_ok
noncomputable def Fs_IsCell : Am.Fn := mkFn C tab_s_IsAtom [0, 1, 3, 5, 11, 12, 14, 19, 20, 22, 23, 26, 30, 34] 39 (fun k => bif k == 2 then some 14 else bif k == 4 then some 14 else bif k == 6 then some 6 else bif k == 1000002 then some 10 else none) ⟨fun _ _ => none, fun s => Nat.testBit 2 s, fun r => bif r == 1 then [6, 12, 14, 15, 20, 22, 23, 24, 35] else []⟩ [(ty83, .ro)] [(ty4, 0)] [.tmp 2] (Tryz.f110.body.getD .skip)
theorem Fs_IsCell_ok : FnOk Tryz.prog 110 Fs_IsCell := by
  unfold Fs_IsCell
  exact mkFn_ok (fn := Tryz.f110) mix C_ok tab_s_IsAtom_ok Tryz.func110 (by kernel_rfl) (by kernel_rfl) (by kernel_rfl) (by kernel_rfl) (by decide)
noncomputable def tab_s_IsCell : Tab := fun f => bif f == 110 then some Fs_IsCell else tab_s_IsAtom f
theorem tab_s_IsCell_ok : TabOk Tryz.prog tab_s_IsCell := tab_cons tab_s_IsAtom_ok Fs_IsCell_ok
noncomputable def Fs_l5Word : Am.Fn := mkFn C tab_s_IsCell [0, 1, 2, 3, 4, 5, 7] 29 (fun k => bif k == 1000002 then some 135 else none) ⟨fun _ _ => none, fun s => Nat.testBit 0 s, fun _ => []⟩ [(ty9, .ro), (ty5, .ro), (ty5, .ro)] [(ty4, 0)] [.tmp 6] (Tryz.f203.body.getD .skip)
theorem Fs_l5Word_ok : FnOk Tryz.prog 203 Fs_l5Word := by
  unfold Fs_l5Word
  exact mkFn_ok (fn := Tryz.f203) mix C_ok tab_s_IsCell_ok Tryz.func203 (by kernel_rfl) (by kernel_rfl) (by kernel_rfl) (by kernel_rfl) (by decide)
noncomputable def tab_s_l5Word : Tab := fun f => bif f == 203 then some Fs_l5Word else tab_s_IsCell f
theorem tab_s_l5Word_ok : TabOk Tryz.prog tab_s_l5Word := tab_cons tab_s_IsCell_ok Fs_l5Word_ok
noncomputable def Fs_IsRelation : Am.Fn := mkFn C tab_s_l5Word [0, 1, 3, 5, 11, 12, 14, 15, 20, 21, 23, 24, 30, 31, 33, 34, 35, 37, 41, 45, 50] 55 (fun k => bif k == 2 then some 14 else bif k == 6 then some 6 else bif k == 1000002 then some 10 else none) ⟨fun _ _ => none, fun s => Nat.testBit 2 s, fun r => bif r == 1 then [6, 12, 14, 15, 21, 23, 24, 25, 31, 33, 34, 35, 51] else []⟩ [(ty117, .ro)] [(ty4, 0)] [.tmp 2] (Tryz.f200.body.getD .skip)
theorem Fs_IsRelation_ok : FnOk Tryz.prog 200 Fs_IsRelation := by
  unfold Fs_IsRelation
  exact mkFn_ok (fn := Tryz.f200) mix C_ok tab_s_l5Word_ok Tryz.func200 (by kernel_rfl) (by kernel_rfl) (by kernel_rfl) (by kernel_rfl) (by decide)
noncomputable def tab_s_IsRelation : Tab := fun f => bif f == 200 then some Fs_IsRelation else tab_s_l5Word f
theorem tab_s_IsRelation_ok : TabOk Tryz.prog tab_s_IsRelation := tab_cons tab_s_l5Word_ok Fs_IsRelation_ok
noncomputable def Fs_FindRelation : Am.Fn := mkFn C tab_s_IsRelation [0, 1, 2, 3, 5, 12, 14, 15] 20 (fun k => bif k == 1000002 then some 35 else none) ⟨fun _ _ => none, fun s => Nat.testBit 0 s, fun _ => []⟩ [(ty49, .ro), (ty9, .ro)] [(ty3, 0)] [.tmp 4] (Tryz.f201.body.getD .skip)
theorem Fs_FindRelation_ok : FnOk Tryz.prog 201 Fs_FindRelation := by
  unfold Fs_FindRelation
  exact mkFn_ok (fn := Tryz.f201) mix C_ok tab_s_IsRelation_ok Tryz.func201 (by kernel_rfl) (by kernel_rfl) (by kernel_rfl) (by kernel_rfl) (by decide)
noncomputable def tab_s_FindRelation : Tab := fun f => bif f == 201 then some Fs_FindRelation else tab_s_IsRelation f
theorem tab_s_FindRelation_ok : TabOk Tryz.prog tab_s_FindRelation := tab_cons tab_s_IsRelation_ok Fs_FindRelation_ok
noncomputable def Fs_IsDatabase : Am.Fn := mkFn C tab_s_FindRelation [0, 1, 3, 10, 12, 17, 20, 22, 23] 31 (fun k => bif k == 1000002 then some 9 else none) ⟨fun _ _ => none, fun s => Nat.testBit 0 s, fun _ => []⟩ [(ty49, .ro)] [(ty4, 0)] [.tmp 2] (Tryz.f185.body.getD .skip)
theorem Fs_IsDatabase_ok : FnOk Tryz.prog 185 Fs_IsDatabase := by
  unfold Fs_IsDatabase
  exact mkFn_ok (fn := Tryz.f185) mix C_ok tab_s_FindRelation_ok Tryz.func185 (by kernel_rfl) (by kernel_rfl) (by kernel_rfl) (by kernel_rfl) (by decide)
noncomputable def tab_s_IsDatabase : Tab := fun f => bif f == 185 then some Fs_IsDatabase else tab_s_FindRelation f
theorem tab_s_IsDatabase_ok : TabOk Tryz.prog tab_s_IsDatabase := tab_cons tab_s_FindRelation_ok Fs_IsDatabase_ok
noncomputable def Fs_l5NoAtom : Am.Fn := mkFn C tab_s_IsDatabase [0, 1, 3, 8, 13] 17 (fun k => bif k == 1 then some 6 else none) ⟨fun _ _ => none, fun s => Nat.testBit 2 s, fun r => bif r == 1 then [4] else []⟩ [(ty85, .ro)] [(ty4, 0)] [.tmp 2] (Tryz.f202.body.getD .skip)
theorem Fs_l5NoAtom_ok : FnOk Tryz.prog 202 Fs_l5NoAtom := by
  unfold Fs_l5NoAtom
  exact mkFn_ok (fn := Tryz.f202) mix C_ok tab_s_IsDatabase_ok Tryz.func202 (by kernel_rfl) (by kernel_rfl) (by kernel_rfl) (by kernel_rfl) (by decide)
noncomputable def tab_s_l5NoAtom : Tab := fun f => bif f == 202 then some Fs_l5NoAtom else tab_s_IsDatabase f
theorem tab_s_l5NoAtom_ok : TabOk Tryz.prog tab_s_l5NoAtom := tab_cons tab_s_IsDatabase_ok Fs_l5NoAtom_ok
noncomputable def Fs_l5Node : Am.Fn := mkFn C tab_s_l5NoAtom [0, 1, 2, 3, 5, 6, 7, 11, 17, 21, 25, 30, 37, 41, 46, 51, 55, 60, 66, 70, 75, 79, 83, 84, 92, 96, 102, 103, 105, 112, 114, 115, 117, 123, 127, 132, 136] 140 (fun k => bif k == 1 then some 25 else bif k == 7 then some 24 else bif k == 11 then some 121 else bif k == 15 then some 57 else bif k == 1000011 then some 105 else bif k == 2000003 then some 9 else bif k == 2000005 then some 9 else none) ⟨fun _ _ => none, fun s => Nat.testBit 8 s, fun r => bif r == 3 then [12, 31, 80, 85, 97, 103, 105, 118] else []⟩ [(ty49, .ro), (ty173, .ro)] [(ty4, 0)] [.tmp 4] (Tryz.f186.body.getD .skip)
theorem Fs_l5Node_ok : FnOk Tryz.prog 186 Fs_l5Node := by
  unfold Fs_l5Node
  exact mkFn_ok (fn := Tryz.f186) mix C_ok tab_s_l5NoAtom_ok Tryz.func186 (by kernel_rfl) (by kernel_rfl) (by kernel_rfl) (by kernel_rfl) (by decide)
noncomputable def tab_s_l5Node : Tab := fun f => bif f == 186 then some Fs_l5Node else tab_s_l5NoAtom f
theorem tab_s_l5Node_ok : TabOk Tryz.prog tab_s_l5Node := tab_cons tab_s_l5NoAtom_ok Fs_l5Node_ok
noncomputable def Fs_IsFormula : Am.Fn := mkFn C tab_s_l5Node [0, 1, 2, 3, 5, 6, 7, 8, 26, 28, 32, 34, 35, 39, 41, 42, 46, 48, 49, 61, 64, 66, 68, 69, 78, 81, 83, 85, 86, 90, 93, 95, 97, 98, 105] 117 (fun k => bif k == 1000005 then some 99 else bif k == 2000014 then some 227 else bif k == 2000017 then some 483 else none) ⟨fun _ _ => none, fun s => Nat.testBit 0 s, fun _ => []⟩ [(ty49, .ro), (ty43, .ro)] [(ty4, 0)] [.tmp 4] (Tryz.f151.body.getD .skip)
theorem Fs_IsFormula_ok : FnOk Tryz.prog 151 Fs_IsFormula := by
  unfold Fs_IsFormula
  exact mkFn_ok (fn := Tryz.f151) mix C_ok tab_s_l5Node_ok Tryz.func151 (by kernel_rfl) (by kernel_rfl) (by kernel_rfl) (by kernel_rfl) (by decide)
noncomputable def tab_s_IsFormula : Tab := fun f => bif f == 151 then some Fs_IsFormula else tab_s_l5Node f
theorem tab_s_IsFormula_ok : TabOk Tryz.prog tab_s_IsFormula := tab_cons tab_s_l5Node_ok Fs_IsFormula_ok
noncomputable def Fs_IsPositive : Am.Fn := mkFn C tab_s_IsFormula [0, 1, 2, 3, 5, 12, 14, 15, 19, 21, 22] 29 (fun k => bif k == 1000002 then some 35 else none) ⟨fun _ _ => none, fun s => Nat.testBit 0 s, fun _ => []⟩ [(ty49, .ro), (ty43, .ro)] [(ty4, 0)] [.tmp 4] (Tryz.f111.body.getD .skip)
theorem Fs_IsPositive_ok : FnOk Tryz.prog 111 Fs_IsPositive := by
  unfold Fs_IsPositive
  exact mkFn_ok (fn := Tryz.f111) mix C_ok tab_s_IsFormula_ok Tryz.func111 (by kernel_rfl) (by kernel_rfl) (by kernel_rfl) (by kernel_rfl) (by decide)
noncomputable def tab_s_IsPositive : Tab := fun f => bif f == 111 then some Fs_IsPositive else tab_s_IsFormula f
theorem tab_s_IsPositive_ok : TabOk Tryz.prog tab_s_IsPositive := tab_cons tab_s_IsFormula_ok Fs_IsPositive_ok
noncomputable def Fs_IsView : Am.Fn := mkFn C tab_s_IsPositive [0, 1, 2, 3, 5, 6, 7, 8, 10, 16, 17, 19, 21, 26, 27, 32, 38, 44, 45, 47, 53, 54, 63, 64, 66, 67, 68, 70, 71, 79, 83] 88 (fun k => bif k == 2 then some 57 else bif k == 4 then some 57 else bif k == 5 then some 121 else bif k == 8 then some 249 else bif k == 11 then some 35184372089337 else bif k == 13 then some 25 else bif k == 1000002 then some 41 else bif k == 1000008 then some 233 else none) ⟨fun _ _ => none, fun s => Nat.testBit 72 s, fun r => bif r == 3 then [11, 17, 19, 20, 80, 84] else bif r == 6 then [8, 22, 33, 39, 45, 47, 48, 49, 53, 54, 63, 64, 67, 68, 70, 71, 72] else []⟩ [(ty49, .ro), (ty46, .ro)] [(ty4, 0)] [.tmp 4] (Tryz.f53.body.getD .skip)
theorem Fs_IsView_ok : FnOk Tryz.prog 53 Fs_IsView := by
  unfold Fs_IsView
  exact mkFn_ok (fn := Tryz.f53) mix C_ok tab_s_IsPositive_ok Tryz.func53 (by kernel_rfl) (by kernel_rfl) (by kernel_rfl) (by kernel_rfl) (by decide)
noncomputable def tab_s_IsView : Tab := fun f => bif f == 53 then some Fs_IsView else tab_s_IsPositive f
theorem tab_s_IsView_ok : TabOk Tryz.prog tab_s_IsView := tab_cons tab_s_IsPositive_ok Fs_IsView_ok
noncomputable def Fs_l3Atom : Am.Fn := mkFn C tab_s_IsView [0, 1, 2, 4, 7, 9] 12 (fun k => bif k == 1 then some 6 else none) ⟨fun _ _ => none, fun s => Nat.testBit 6 s, fun r => bif r == 1 then [5] else bif r == 2 then [] else []⟩ [(ty85, .ro)] [(ty85, 1)] [.cell 2 85] (Tryz.f94.body.getD .skip)
theorem Fs_l3Atom_ok : FnOk Tryz.prog 94 Fs_l3Atom := by
  unfold Fs_l3Atom
  exact mkFn_ok (fn := Tryz.f94) mix C_ok tab_s_IsView_ok Tryz.func94 (by kernel_rfl) (by kernel_rfl) (by kernel_rfl) (by kernel_rfl) (by decide)
noncomputable def tab_s_l3Atom : Tab := fun f => bif f == 94 then some Fs_l3Atom else tab_s_IsView f
theorem tab_s_l3Atom_ok : TabOk Tryz.prog tab_s_l3Atom := tab_cons tab_s_IsView_ok Fs_l3Atom_ok
noncomputable def Fs_l5Append : Am.Fn := mkFn C tab_s_l3Atom [0, 1, 2, 3, 5, 6, 7, 16, 18, 20, 22, 23, 28, 30, 31, 35, 38, 43, 47, 51] 61 (fun k => bif k == 1 then some 19 else bif k == 3 then some 115 else bif k == 5 then some 115 else bif k == 6 then some 243 else bif k == 7 then some 243 else bif k == 9 then some 243 else bif k == 11 then some 243 else bif k == 12 then some 243 else bif k == 1000003 then some 99 else none) ⟨fun _ _ => none, fun s => Nat.testBit 157469686036622998647239528099424321874011378654314715618063107732487526478678137443246088683339962826550995104518631028289649175154974313418890557704364586398074796845548162228866984974254165366095965214688880693303613224408790401716875616922712368229541972327764856553535166521820992678875253248684383732303833942205557677303912077534287411501151331443691581169107340841268390653886510566775109181758452449725964576504413271696901684334558048546715211836387666425534296129500294599932215395935674217443431483415129229194734311959596616386910745061975375642305516225546310657319686432742603436754678784145119420700251521751476980165475720161258736140973342103583372373765396572240564682432303519745079097239659788622121034293503002452767658076431627329746391540181806106772819669842064759935616277824086464175964671842048745930150492576444785998368017302001814387082228645313587171055638850434333438640256 s, fun r => bif r == 7 then [57] else []⟩ [(ty43, .eat 2), (ty43, .ro)] [(ty43, 2)] [.tmp 4] (Tryz.f55.body.getD .skip)
theorem Fs_l5Append_ok : FnOk Tryz.prog 55 Fs_l5Append := by
  unfold Fs_l5Append
  exact mkFn_ok (fn := Tryz.f55) mix C_ok tab_s_l3Atom_ok Tryz.func55 (by kernel_rfl) (by kernel_rfl) (by kernel_rfl) (by kernel_rfl) (by decide)
noncomputable def tab_s_l5Append : Tab := fun f => bif f == 55 then some Fs_l5Append else tab_s_l3Atom f
theorem tab_s_l5Append_ok : TabOk Tryz.prog tab_s_l5Append := tab_cons tab_s_l3Atom_ok Fs_l5Append_ok
noncomputable def Fs_l10Uses : Am.Fn := mkFn C tab_s_l5Append [0, 1, 2, 3, 4, 5, 7, 9, 15, 16, 18, 19, 20, 25, 26, 28, 29, 30] 35 (fun k => bif k == 2 then some 206 else bif k == 1000002 then some 142 else none) ⟨fun _ _ => none, fun s => Nat.testBit 8 s, fun r => bif r == 3 then [10, 16, 18, 19, 20, 26, 28, 29, 30] else []⟩ [(ty122, .ro), (ty3, .ro), (ty3, .ro)] [(ty4, 0)] [.tmp 6] (Tryz.f56.body.getD .skip)
theorem Fs_l10Uses_ok : FnOk Tryz.prog 56 Fs_l10Uses := by
  unfold Fs_l10Uses
  exact mkFn_ok (fn := Tryz.f56) mix C_ok tab_s_l5Append_ok Tryz.func56 (by kernel_rfl) (by kernel_rfl) (by kernel_rfl) (by kernel_rfl) (by decide)
noncomputable def tab_s_l10Uses : Tab := fun f => bif f == 56 then some Fs_l10Uses else tab_s_l5Append f
theorem tab_s_l10Uses_ok : TabOk Tryz.prog tab_s_l10Uses := tab_cons tab_s_l5Append_ok Fs_l10Uses_ok
noncomputable def Fs_l3Copy : Am.Fn := mkFn C tab_s_l10Uses [0, 1, 2, 3, 4, 5, 9, 15, 17, 18, 20] 27 (fun k => bif k == 1 then some 6 else bif k == 3 then some 30 else bif k == 5 then some 30 else bif k == 6 then some 12 else bif k == 1000003 then some 30 else none) ⟨fun _ _ => none, fun s => Nat.testBit 14 s, fun r => bif r == 1 then [10, 18, 20, 21] else bif r == 2 then [] else bif r == 3 then [16, 26] else []⟩ [(ty83, .ro)] [(ty83, 2)] [.cell 2 83] (Tryz.f57.body.getD .skip)
theorem Fs_l3Copy_ok : FnOk Tryz.prog 57 Fs_l3Copy := by
  unfold Fs_l3Copy
  exact mkFn_ok (fn := Tryz.f57) mix C_ok tab_s_l10Uses_ok Tryz.func57 (by kernel_rfl) (by kernel_rfl) (by kernel_rfl) (by kernel_rfl) (by decide)
noncomputable def tab_s_l3Copy : Tab := fun f => bif f == 57 then some Fs_l3Copy else tab_s_l10Uses f
theorem tab_s_l3Copy_ok : TabOk Tryz.prog tab_s_l3Copy := tab_cons tab_s_l10Uses_ok Fs_l3Copy_ok
noncomputable def Fs_l10Pairs : Am.Fn := mkFn C tab_s_l3Copy [0, 1, 3, 4, 14, 16] 22 (fun k => bif k == 1000003 then some 25 else none) ⟨fun _ _ => none, fun s => Nat.testBit 0 s, fun _ => []⟩ [(ty120, .ro)] [(ty120, 2)] [.tmp 2] (Tryz.f58.body.getD .skip)
theorem Fs_l10Pairs_ok : FnOk Tryz.prog 58 Fs_l10Pairs := by
  unfold Fs_l10Pairs
  exact mkFn_ok (fn := Tryz.f58) mix C_ok tab_s_l3Copy_ok Tryz.func58 (by kernel_rfl) (by kernel_rfl) (by kernel_rfl) (by kernel_rfl) (by decide)
noncomputable def tab_s_l10Pairs : Tab := fun f => bif f == 58 then some Fs_l10Pairs else tab_s_l3Copy f
theorem tab_s_l10Pairs_ok : TabOk Tryz.prog tab_s_l10Pairs := tab_cons tab_s_l3Copy_ok Fs_l10Pairs_ok
noncomputable def Fs_ViewAfterRemove : Am.Fn := mkFn C tab_s_l10Pairs [0, 1, 2, 3, 4, 5, 6, 7, 8, 10, 11, 12, 13, 28, 30, 31, 40, 45, 51, 52, 54, 59, 60, 62, 63, 66, 67, 69, 70, 75, 81, 82, 84, 85, 86, 91, 92, 94, 95, 96, 101, 102, 104, 105, 106, 107, 109, 110, 111, 115] 122 (fun k => bif k == 1 then some 813 else bif k == 2 then some 768 else bif k == 3 then some 812 else bif k == 5 then some 3884 else bif k == 8 then some 3884 else bif k == 10 then some 16172 else bif k == 13 then some 16172 else bif k == 14 then some 7980 else bif k == 15 then some 1792 else bif k == 1000005 then some 3372 else bif k == 1000010 then some 15660 else none) ⟨fun _ _ => none, fun s => Nat.testBit 5408 s, fun r => bif r == 5 then [15, 41, 46, 52, 54, 55, 60, 62, 63, 64, 67, 69, 70, 71] else bif r == 8 then [] else bif r == 10 then [116, 121] else bif r == 12 then [76, 82, 84, 85, 86, 92, 94, 95, 96, 102, 104, 105, 107, 109, 110, 111, 114, 117] else []⟩ [(ty49, .ro), (ty46, .ro), (ty3, .ro), (ty3, .ro)] [(ty46, 3), (ty4, 0)] [.cell 8 46, .tmp 9] (Tryz.f17.body.getD .skip)
theorem Fs_ViewAfterRemove_ok : FnOk Tryz.prog 17 Fs_ViewAfterRemove := by
  unfold Fs_ViewAfterRemove
  exact mkFn_ok (fn := Tryz.f17) mix C_ok tab_s_l10Pairs_ok Tryz.func17 (by kernel_rfl) (by kernel_rfl) (by kernel_rfl) (by kernel_rfl) (by decide)
noncomputable def tab_s_ViewAfterRemove : Tab := fun f => bif f == 17 then some Fs_ViewAfterRemove else tab_s_l10Pairs f
theorem tab_s_ViewAfterRemove_ok : TabOk Tryz.prog tab_s_ViewAfterRemove := tab_cons tab_s_l10Pairs_ok Fs_ViewAfterRemove_ok
noncomputable def Fi_isWord : Am.Fn := mkFn C tab_s_ViewAfterRemove [0, 1, 2, 3, 4, 5, 7] 34 (fun k => bif k == 1000004 then some 135 else none) ⟨fun _ _ => none, fun s => Nat.testBit 0 s, fun _ => []⟩ [(ty9, .ro), (ty5, .ro), (ty5, .ro)] [(ty4, 0)] [.tmp 6] (Tryz.f211.body.getD .skip)
theorem Fi_isWord_ok : FnOk Tryz.prog 211 Fi_isWord := by
  unfold Fi_isWord
  exact mkFn_ok (fn := Tryz.f211) mix C_ok tab_s_ViewAfterRemove_ok Tryz.func211 (by kernel_rfl) (by kernel_rfl) (by kernel_rfl) (by kernel_rfl) (by decide)
noncomputable def tab_i_isWord : Tab := fun f => bif f == 211 then some Fi_isWord else tab_s_ViewAfterRemove f
theorem tab_i_isWord_ok : TabOk Tryz.prog tab_i_isWord := tab_cons tab_s_ViewAfterRemove_ok Fi_isWord_ok
noncomputable def Fi_isName : Am.Fn := mkFn C tab_i_isWord [0, 1] 5 (fun _ => none) ⟨fun _ _ => none, fun s => Nat.testBit 0 s, fun _ => []⟩ [(ty9, .ro)] [(ty4, 0)] [.tmp 2] (Tryz.f210.body.getD .skip)
theorem Fi_isName_ok : FnOk Tryz.prog 210 Fi_isName := by
  unfold Fi_isName
  exact mkFn_ok (fn := Tryz.f210) mix C_ok tab_i_isWord_ok Tryz.func210 (by kernel_rfl) (by kernel_rfl) (by kernel_rfl) (by kernel_rfl) (by decide)
noncomputable def tab_i_isName : Tab := fun f => bif f == 210 then some Fi_isName else tab_i_isWord f
theorem tab_i_isName_ok : TabOk Tryz.prog tab_i_isName := tab_cons tab_i_isWord_ok Fi_isName_ok
noncomputable def Fi_isLabel : Am.Fn := mkFn C tab_i_isName [0, 1] 5 (fun _ => none) ⟨fun _ _ => none, fun s => Nat.testBit 0 s, fun _ => []⟩ [(ty9, .ro)] [(ty4, 0)] [.tmp 2] (Tryz.f207.body.getD .skip)
theorem Fi_isLabel_ok : FnOk Tryz.prog 207 Fi_isLabel := by
  unfold Fi_isLabel
  exact mkFn_ok (fn := Tryz.f207) mix C_ok tab_i_isName_ok Tryz.func207 (by kernel_rfl) (by kernel_rfl) (by kernel_rfl) (by kernel_rfl) (by decide)
noncomputable def tab_i_isLabel : Tab := fun f => bif f == 207 then some Fi_isLabel else tab_i_isName f
theorem tab_i_isLabel_ok : TabOk Tryz.prog tab_i_isLabel := tab_cons tab_i_isName_ok Fi_isLabel_ok
noncomputable def Fi_IsNumber : Am.Fn := mkFn C tab_i_isLabel [0, 1] 9 (fun _ => none) ⟨fun _ _ => none, fun s => Nat.testBit 0 s, fun _ => []⟩ [(ty3, .ro)] [(ty4, 0)] [.tmp 2] (Tryz.f162.body.getD .skip)
theorem Fi_IsNumber_ok : FnOk Tryz.prog 162 Fi_IsNumber := by
  unfold Fi_IsNumber
  exact mkFn_ok (fn := Tryz.f162) mix C_ok tab_i_isLabel_ok Tryz.func162 (by kernel_rfl) (by kernel_rfl) (by kernel_rfl) (by kernel_rfl) (by decide)
noncomputable def tab_i_IsNumber : Tab := fun f => bif f == 162 then some Fi_IsNumber else tab_i_isLabel f
theorem tab_i_IsNumber_ok : TabOk Tryz.prog tab_i_IsNumber := tab_cons tab_i_isLabel_ok Fi_IsNumber_ok
noncomputable def Fi_absolute : Am.Fn := mkFn C tab_i_IsNumber [0, 1] 8 (fun _ => none) ⟨fun _ _ => none, fun s => Nat.testBit 0 s, fun _ => []⟩ [(ty3, .ro)] [(ty3, 0)] [.tmp 2] (Tryz.f173.body.getD .skip)
theorem Fi_absolute_ok : FnOk Tryz.prog 173 Fi_absolute := by
  unfold Fi_absolute
  exact mkFn_ok (fn := Tryz.f173) mix C_ok tab_i_IsNumber_ok Tryz.func173 (by kernel_rfl) (by kernel_rfl) (by kernel_rfl) (by kernel_rfl) (by decide)
noncomputable def tab_i_absolute : Tab := fun f => bif f == 173 then some Fi_absolute else tab_i_IsNumber f
theorem tab_i_absolute_ok : TabOk Tryz.prog tab_i_absolute := tab_cons tab_i_IsNumber_ok Fi_absolute_ok
noncomputable def Fi_commonDivisor : Am.Fn := mkFn C tab_i_absolute [0, 1, 2, 3] 16 (fun k => bif k == 1000002 then some 3 else none) ⟨fun _ _ => none, fun s => Nat.testBit 0 s, fun _ => []⟩ [(ty3, .ro), (ty3, .ro)] [(ty3, 0)] [.tmp 4] (Tryz.f137.body.getD .skip)
theorem Fi_commonDivisor_ok : FnOk Tryz.prog 137 Fi_commonDivisor := by
  unfold Fi_commonDivisor
  exact mkFn_ok (fn := Tryz.f137) mix C_ok tab_i_absolute_ok Tryz.func137 (by kernel_rfl) (by kernel_rfl) (by kernel_rfl) (by kernel_rfl) (by decide)
noncomputable def tab_i_commonDivisor : Tab := fun f => bif f == 137 then some Fi_commonDivisor else tab_i_absolute f
theorem tab_i_commonDivisor_ok : TabOk Tryz.prog tab_i_commonDivisor := tab_cons tab_i_absolute_ok Fi_commonDivisor_ok
noncomputable def Fi_divisorOf : Am.Fn := mkFn C tab_i_commonDivisor [0, 1, 3, 4, 5, 6, 10] 17 (fun k => bif k == 1000003 then some 457 else none) ⟨fun _ _ => none, fun s => Nat.testBit 0 s, fun _ => []⟩ [(ty59, .ro)] [(ty3, 0)] [.tmp 2] (Tryz.f138.body.getD .skip)
theorem Fi_divisorOf_ok : FnOk Tryz.prog 138 Fi_divisorOf := by
  unfold Fi_divisorOf
  exact mkFn_ok (fn := Tryz.f138) mix C_ok tab_i_commonDivisor_ok Tryz.func138 (by kernel_rfl) (by kernel_rfl) (by kernel_rfl) (by kernel_rfl) (by decide)
noncomputable def tab_i_divisorOf : Tab := fun f => bif f == 138 then some Fi_divisorOf else tab_i_commonDivisor f
theorem tab_i_divisorOf_ok : TabOk Tryz.prog tab_i_divisorOf := tab_cons tab_i_commonDivisor_ok Fi_divisorOf_ok
noncomputable def Fi_IsAtom : Am.Fn := mkFn C tab_i_divisorOf [0, 1, 3, 4, 5, 10, 15, 16, 20, 26, 29] 33 (fun k => bif k == 1 then some 6 else bif k == 3 then some 6 else bif k == 1000004 then some 458754 else none) ⟨fun _ _ => none, fun s => Nat.testBit 2 s, fun r => bif r == 1 then [6, 16, 20, 27] else []⟩ [(ty85, .ro)] [(ty4, 0)] [.tmp 2] (Tryz.f139.body.getD .skip)
theorem Fi_IsAtom_ok : FnOk Tryz.prog 139 Fi_IsAtom := by
  unfold Fi_IsAtom
  exact mkFn_ok (fn := Tryz.f139) mix C_ok tab_i_divisorOf_ok Tryz.func139 (by kernel_rfl) (by kernel_rfl) (by kernel_rfl) (by kernel_rfl) (by decide)
noncomputable def tab_i_IsAtom : Tab := fun f => bif f == 139 then some Fi_IsAtom else tab_i_divisorOf f
theorem tab_i_IsAtom_ok : TabOk Tryz.prog tab_i_IsAtom := tab_cons tab_i_divisorOf_ok Fi_IsAtom_ok
noncomputable def Fi_IsCell : Am.Fn := mkFn C tab_i_IsAtom [0, 1, 3, 4, 5, 9, 14, 19, 20, 24, 30, 33] 38 (fun k => bif k == 1 then some 6 else bif k == 3 then some 6 else bif k == 5 then some 7340038 else bif k == 6 then some 7340054 else bif k == 1000004 then some 7340034 else none) ⟨fun _ _ => none, fun s => Nat.testBit 18 s, fun r => bif r == 1 then [15, 20, 24, 25] else bif r == 4 then [26, 31] else []⟩ [(ty83, .ro)] [(ty4, 0)] [.tmp 2] (Tryz.f116.body.getD .skip)
theorem Fi_IsCell_ok : FnOk Tryz.prog 116 Fi_IsCell := by
  unfold Fi_IsCell
  exact mkFn_ok (fn := Tryz.f116) mix C_ok tab_i_IsAtom_ok Tryz.func116 (by kernel_rfl) (by kernel_rfl) (by kernel_rfl) (by kernel_rfl) (by decide)
noncomputable def tab_i_IsCell : Tab := fun f => bif f == 116 then some Fi_IsCell else tab_i_IsAtom f
theorem tab_i_IsCell_ok : TabOk Tryz.prog tab_i_IsCell := tab_cons tab_i_IsAtom_ok Fi_IsCell_ok
noncomputable def Fi_IsRelation : Am.Fn := mkFn C tab_i_IsCell [0, 1, 3, 4, 5, 10, 15, 20, 25, 26, 30, 32, 37, 43, 44, 46] 51 (fun k => bif k == 1 then some 6 else bif k == 3 then some 6 else bif k == 5 then some 469762054 else bif k == 1000004 then some 469762050 else none) ⟨fun _ _ => none, fun s => Nat.testBit 18 s, fun r => bif r == 1 then [21, 26, 30, 31] else bif r == 4 then [38] else []⟩ [(ty117, .ro)] [(ty4, 0)] [.tmp 2] (Tryz.f204.body.getD .skip)
theorem Fi_IsRelation_ok : FnOk Tryz.prog 204 Fi_IsRelation := by
  unfold Fi_IsRelation
  exact mkFn_ok (fn := Tryz.f204) mix C_ok tab_i_IsCell_ok Tryz.func204 (by kernel_rfl) (by kernel_rfl) (by kernel_rfl) (by kernel_rfl) (by decide)
noncomputable def tab_i_IsRelation : Tab := fun f => bif f == 204 then some Fi_IsRelation else tab_i_IsCell f
theorem tab_i_IsRelation_ok : TabOk Tryz.prog tab_i_IsRelation := tab_cons tab_i_IsCell_ok Fi_IsRelation_ok
noncomputable def Fi_FindRelation : Am.Fn := mkFn C tab_i_IsRelation [0, 1, 2, 3, 5, 6, 7, 12, 14] 20 (fun k => bif k == 1 then some 19 else bif k == 3 then some 915 else bif k == 1000002 then some 899 else none) ⟨fun _ _ => none, fun s => Nat.testBit 64 s, fun r => bif r == 6 then [] else []⟩ [(ty49, .ro), (ty9, .ro)] [(ty3, 0)] [.tmp 4] (Tryz.f205.body.getD .skip)
theorem Fi_FindRelation_ok : FnOk Tryz.prog 205 Fi_FindRelation := by
  unfold Fi_FindRelation
  exact mkFn_ok (fn := Tryz.f205) mix C_ok tab_i_IsRelation_ok Tryz.func205 (by kernel_rfl) (by kernel_rfl) (by kernel_rfl) (by kernel_rfl) (by decide)
noncomputable def tab_i_FindRelation : Tab := fun f => bif f == 205 then some Fi_FindRelation else tab_i_IsRelation f
theorem tab_i_FindRelation_ok : TabOk Tryz.prog tab_i_FindRelation := tab_cons tab_i_IsRelation_ok Fi_FindRelation_ok
noncomputable def Fi_IsDatabase : Am.Fn := mkFn C tab_i_FindRelation [0, 1, 3, 4, 8, 13, 20] 27 (fun k => bif k == 1 then some 5 else bif k == 3 then some 5 else bif k == 5 then some 1797 else bif k == 1000004 then some 1793 else none) ⟨fun _ _ => none, fun s => Nat.testBit 16 s, fun r => bif r == 4 then [15] else []⟩ [(ty49, .ro)] [(ty4, 0)] [.tmp 2] (Tryz.f188.body.getD .skip)
theorem Fi_IsDatabase_ok : FnOk Tryz.prog 188 Fi_IsDatabase := by
  unfold Fi_IsDatabase
  exact mkFn_ok (fn := Tryz.f188) mix C_ok tab_i_FindRelation_ok Tryz.func188 (by kernel_rfl) (by kernel_rfl) (by kernel_rfl) (by kernel_rfl) (by decide)
noncomputable def tab_i_IsDatabase : Tab := fun f => bif f == 188 then some Fi_IsDatabase else tab_i_FindRelation f
theorem tab_i_IsDatabase_ok : TabOk Tryz.prog tab_i_IsDatabase := tab_cons tab_i_FindRelation_ok Fi_IsDatabase_ok
noncomputable def Fi_isZeroAtom : Am.Fn := mkFn C tab_i_IsDatabase [0, 1, 3, 8, 13] 17 (fun k => bif k == 1 then some 6 else none) ⟨fun _ _ => none, fun s => Nat.testBit 2 s, fun r => bif r == 1 then [4] else []⟩ [(ty85, .ro)] [(ty4, 0)] [.tmp 2] (Tryz.f206.body.getD .skip)
theorem Fi_isZeroAtom_ok : FnOk Tryz.prog 206 Fi_isZeroAtom := by
  unfold Fi_isZeroAtom
  exact mkFn_ok (fn := Tryz.f206) mix C_ok tab_i_IsDatabase_ok Tryz.func206 (by kernel_rfl) (by kernel_rfl) (by kernel_rfl) (by kernel_rfl) (by decide)
noncomputable def tab_i_isZeroAtom : Tab := fun f => bif f == 206 then some Fi_isZeroAtom else tab_i_IsDatabase f
theorem tab_i_isZeroAtom_ok : TabOk Tryz.prog tab_i_isZeroAtom := tab_cons tab_i_IsDatabase_ok Fi_isZeroAtom_ok
noncomputable def Fi_isVariable : Am.Fn := mkFn C tab_i_isZeroAtom [0, 1] 9 (fun _ => none) ⟨fun _ _ => none, fun s => Nat.testBit 0 s, fun _ => []⟩ [(ty3, .ro)] [(ty4, 0)] [.tmp 2] (Tryz.f208.body.getD .skip)
theorem Fi_isVariable_ok : FnOk Tryz.prog 208 Fi_isVariable := by
  unfold Fi_isVariable
  exact mkFn_ok (fn := Tryz.f208) mix C_ok tab_i_isZeroAtom_ok Tryz.func208 (by kernel_rfl) (by kernel_rfl) (by kernel_rfl) (by kernel_rfl) (by decide)
noncomputable def tab_i_isVariable : Tab := fun f => bif f == 208 then some Fi_isVariable else tab_i_isZeroAtom f
theorem tab_i_isVariable_ok : TabOk Tryz.prog tab_i_isVariable := tab_cons tab_i_isZeroAtom_ok Fi_isVariable_ok
noncomputable def Fi_fieldsFit : Am.Fn := mkFn C tab_i_isVariable [0, 1, 2, 3, 5, 6, 7, 8, 12, 17, 21, 25, 30, 36, 40, 44, 49, 50, 58, 61, 69, 71, 72, 74, 80, 84, 90, 91, 95, 104, 107] 110 (fun k => bif k == 3 then some 25 else bif k == 7 then some 24 else bif k == 10 then some 57 else bif k == 12 then some 24 else bif k == 1000013 then some 17331160549995323848587739144 else bif k == 2000003 then some 9 else bif k == 2000005 then some 9 else bif k == 2000012 then some 8 else bif k == 2000021 then some 2535301200456458802993406410760 else none) ⟨fun _ _ => none, fun s => Nat.testBit 8 s, fun r => bif r == 3 then [13, 31, 45, 51, 75, 91, 95] else []⟩ [(ty49, .ro), (ty173, .ro)] [(ty4, 0)] [.tmp 4] (Tryz.f189.body.getD .skip)
theorem Fi_fieldsFit_ok : FnOk Tryz.prog 189 Fi_fieldsFit := by
  unfold Fi_fieldsFit
  exact mkFn_ok (fn := Tryz.f189) mix C_ok tab_i_isVariable_ok Tryz.func189 (by kernel_rfl) (by kernel_rfl) (by kernel_rfl) (by kernel_rfl) (by decide)
noncomputable def tab_i_fieldsFit : Tab := fun f => bif f == 189 then some Fi_fieldsFit else tab_i_isVariable f
theorem tab_i_fieldsFit_ok : TabOk Tryz.prog tab_i_fieldsFit := tab_cons tab_i_isVariable_ok Fi_fieldsFit_ok
noncomputable def Fi_partsIn : Am.Fn := mkFn C tab_i_fieldsFit [0, 1] 14 (fun _ => none) ⟨fun _ _ => none, fun s => Nat.testBit 0 s, fun _ => []⟩ [(ty3, .ro)] [(ty3, 0)] [.tmp 2] (Tryz.f190.body.getD .skip)
theorem Fi_partsIn_ok : FnOk Tryz.prog 190 Fi_partsIn := by
  unfold Fi_partsIn
  exact mkFn_ok (fn := Tryz.f190) mix C_ok tab_i_fieldsFit_ok Tryz.func190 (by kernel_rfl) (by kernel_rfl) (by kernel_rfl) (by kernel_rfl) (by decide)
noncomputable def tab_i_partsIn : Tab := fun f => bif f == 190 then some Fi_partsIn else tab_i_fieldsFit f
theorem tab_i_partsIn_ok : TabOk Tryz.prog tab_i_partsIn := tab_cons tab_i_fieldsFit_ok Fi_partsIn_ok
noncomputable def Fi_IsFormula : Am.Fn := mkFn C tab_i_partsIn [0, 1, 2, 3, 5, 6, 7, 24, 29, 35, 40, 44, 48, 57, 64, 68, 70, 73, 81, 88, 91, 96, 98, 101, 106, 108, 109, 111, 115, 119] 122 (fun k => bif k == 1 then some 19 else bif k == 3 then some 19 else bif k == 4 then some 51 else bif k == 6 then some 117440563 else bif k == 14 then some 117440627 else bif k == 18 then some 117440627 else bif k == 22 then some 117440755 else bif k == 24 then some 50 else bif k == 1000005 then some 117440547 else bif k == 2000023 then some 117440547 else none) ⟨fun _ _ => none, fun s => Nat.testBit 128 s, fun r => bif r == 7 then [32, 111] else []⟩ [(ty49, .ro), (ty43, .ro)] [(ty4, 0)] [.tmp 4] (Tryz.f157.body.getD .skip)
theorem Fi_IsFormula_ok : FnOk Tryz.prog 157 Fi_IsFormula := by
  unfold Fi_IsFormula
  exact mkFn_ok (fn := Tryz.f157) mix C_ok tab_i_partsIn_ok Tryz.func157 (by kernel_rfl) (by kernel_rfl) (by kernel_rfl) (by kernel_rfl) (by decide)
noncomputable def tab_i_IsFormula : Tab := fun f => bif f == 157 then some Fi_IsFormula else tab_i_partsIn f
theorem tab_i_IsFormula_ok : TabOk Tryz.prog tab_i_IsFormula := tab_cons tab_i_partsIn_ok Fi_IsFormula_ok
noncomputable def Fi_IsPositive : Am.Fn := mkFn C tab_i_IsFormula [0, 1, 2, 3, 5, 6, 11, 15, 17, 21] 26 (fun k => bif k == 3 then some 18 else bif k == 5 then some 14354 else bif k == 1000004 then some 14338 else none) ⟨fun _ _ => none, fun s => Nat.testBit 64 s, fun r => bif r == 6 then [] else []⟩ [(ty49, .ro), (ty43, .ro)] [(ty4, 0)] [.tmp 4] (Tryz.f115.body.getD .skip)
theorem Fi_IsPositive_ok : FnOk Tryz.prog 115 Fi_IsPositive := by
  unfold Fi_IsPositive
  exact mkFn_ok (fn := Tryz.f115) mix C_ok tab_i_IsFormula_ok Tryz.func115 (by kernel_rfl) (by kernel_rfl) (by kernel_rfl) (by kernel_rfl) (by decide)
noncomputable def tab_i_IsPositive : Tab := fun f => bif f == 115 then some Fi_IsPositive else tab_i_IsFormula f
theorem tab_i_IsPositive_ok : TabOk Tryz.prog tab_i_IsPositive := tab_cons tab_i_IsFormula_ok Fi_IsPositive_ok
noncomputable def Fi_isRowOf : Am.Fn := mkFn C tab_i_IsPositive [0, 1, 2, 3, 4, 5, 21, 23, 24] 29 (fun _ => none) ⟨fun _ _ => none, fun s => Nat.testBit 0 s, fun _ => []⟩ [(ty49, .ro), (ty3, .ro), (ty3, .ro)] [(ty4, 0)] [.tmp 6] (Tryz.f63.body.getD .skip)
theorem Fi_isRowOf_ok : FnOk Tryz.prog 63 Fi_isRowOf := by
  unfold Fi_isRowOf
  exact mkFn_ok (fn := Tryz.f63) mix C_ok tab_i_IsPositive_ok Tryz.func63 (by kernel_rfl) (by kernel_rfl) (by kernel_rfl) (by kernel_rfl) (by decide)
noncomputable def tab_i_isRowOf : Tab := fun f => bif f == 63 then some Fi_isRowOf else tab_i_IsPositive f
theorem tab_i_isRowOf_ok : TabOk Tryz.prog tab_i_isRowOf := tab_cons tab_i_IsPositive_ok Fi_isRowOf_ok
noncomputable def Fi_IsView : Am.Fn := mkFn C tab_i_isRowOf [0, 1, 2, 3, 5, 6, 7, 8, 10, 15, 20, 21, 25, 27, 32, 33, 38, 43, 44, 48, 55, 56, 58, 59] 66 (fun k => bif k == 1 then some 25 else bif k == 3 then some 25 else bif k == 5 then some 14680089 else bif k == 6 then some 14680153 else bif k == 8 then some 14680153 else bif k == 11 then some 123145316991321 else bif k == 1000004 then some 14680073 else bif k == 1000009 then some 123145316991049 else none) ⟨fun _ _ => none, fun s => Nat.testBit 72 s, fun r => bif r == 3 then [11, 16, 21, 25, 26] else bif r == 6 then [8, 28, 39, 44, 48, 49, 50, 55, 56, 58, 59] else []⟩ [(ty49, .ro), (ty46, .ro)] [(ty4, 0)] [.tmp 4] (Tryz.f62.body.getD .skip)
theorem Fi_IsView_ok : FnOk Tryz.prog 62 Fi_IsView := by
  unfold Fi_IsView
  exact mkFn_ok (fn := Tryz.f62) mix C_ok tab_i_isRowOf_ok Tryz.func62 (by kernel_rfl) (by kernel_rfl) (by kernel_rfl) (by kernel_rfl) (by decide)
noncomputable def tab_i_IsView : Tab := fun f => bif f == 62 then some Fi_IsView else tab_i_isRowOf f
theorem tab_i_IsView_ok : TabOk Tryz.prog tab_i_IsView := tab_cons tab_i_isRowOf_ok Fi_IsView_ok
noncomputable def Fi_copyNumbers : Am.Fn := mkFn C tab_i_IsView [0, 1] 6 (fun _ => none) ⟨fun _ _ => none, fun s => Nat.testBit 0 s, fun _ => []⟩ [(ty59, .ro)] [(ty59, 1)] [.tmp 2] (Tryz.f140.body.getD .skip)
theorem Fi_copyNumbers_ok : FnOk Tryz.prog 140 Fi_copyNumbers := by
  unfold Fi_copyNumbers
  exact mkFn_ok (fn := Tryz.f140) mix C_ok tab_i_IsView_ok Tryz.func140 (by kernel_rfl) (by kernel_rfl) (by kernel_rfl) (by kernel_rfl) (by decide)
noncomputable def tab_i_copyNumbers : Tab := fun f => bif f == 140 then some Fi_copyNumbers else tab_i_IsView f
theorem tab_i_copyNumbers_ok : TabOk Tryz.prog tab_i_copyNumbers := tab_cons tab_i_IsView_ok Fi_copyNumbers_ok
noncomputable def Fi_copyAtom : Am.Fn := mkFn C tab_i_copyNumbers [0, 1, 2, 3, 6, 8] 11 (fun k => bif k == 1 then some 6 else none) ⟨fun _ _ => none, fun s => Nat.testBit 6 s, fun r => bif r == 1 then [4] else bif r == 2 then [] else []⟩ [(ty85, .ro)] [(ty85, 1)] [.cell 2 85] (Tryz.f100.body.getD .skip)
theorem Fi_copyAtom_ok : FnOk Tryz.prog 100 Fi_copyAtom := by
  unfold Fi_copyAtom
  exact mkFn_ok (fn := Tryz.f100) mix C_ok tab_i_copyNumbers_ok Tryz.func100 (by kernel_rfl) (by kernel_rfl) (by kernel_rfl) (by kernel_rfl) (by decide)
noncomputable def tab_i_copyAtom : Tab := fun f => bif f == 100 then some Fi_copyAtom else tab_i_copyNumbers f
theorem tab_i_copyAtom_ok : TabOk Tryz.prog tab_i_copyAtom := tab_cons tab_i_copyNumbers_ok Fi_copyAtom_ok
noncomputable def Fi_copyNode : Am.Fn := mkFn C tab_i_copyAtom [0, 1, 2, 3, 7] 12 (fun k => bif k == 1 then some 6 else bif k == 2 then some 6 else bif k == 3 then some 6 else none) ⟨fun _ _ => none, fun s => Nat.testBit 2460463844322234353863117626553505029281427791473667431532236058320117601229345897550720135677186919164859298508103609817025768361796473647170164964130696662469918700711690034826046640222721333845249456479513760832868956631387350026826181514417380753586593317621325883648986976903453010607425832010693495817247405346961838707873626211473240804705489553807680955767302200644818603966976727605861080964975819526968196507881457370264088817727469508542425184943557287898973377023442103123940865561494909647553616928361394206167723624368697131045480391593365244411023691024161104020620100511603178699291856002267490948441430027366827815085558127519667752202708470368490193340084321441258823163004742496016860894369684197220641160835984413324494657444244177027287367815340720418325307341282261873994004341001351002749447997532011655158601446506949781224500270343778349798159822583024799547744357038036459978758 s, fun r => bif r == 1 then [4, 8, 11] else bif r == 2 then [] else []⟩ [(ty173, .ro)] [(ty173, 1)] [.cell 2 173] (Tryz.f117.body.getD .skip)
theorem Fi_copyNode_ok : FnOk Tryz.prog 117 Fi_copyNode := by
  unfold Fi_copyNode
  exact mkFn_ok (fn := Tryz.f117) mix C_ok tab_i_copyAtom_ok Tryz.func117 (by kernel_rfl) (by kernel_rfl) (by kernel_rfl) (by kernel_rfl) (by decide)
noncomputable def tab_i_copyNode : Tab := fun f => bif f == 117 then some Fi_copyNode else tab_i_copyAtom f
theorem tab_i_copyNode_ok : TabOk Tryz.prog tab_i_copyNode := tab_cons tab_i_copyAtom_ok Fi_copyNode_ok
noncomputable def Fi_copyNodes : Am.Fn := mkFn C tab_i_copyNode [0, 1, 3, 4, 5, 9, 13] 22 (fun k => bif k == 1 then some 13 else bif k == 2 then some 13 else bif k == 4 then some 3597 else bif k == 5 then some 3629 else bif k == 1000003 then some 3593 else none) ⟨fun _ _ => none, fun s => Nat.testBit 32 s, fun r => bif r == 5 then [16] else []⟩ [(ty43, .ro)] [(ty43, 2)] [.tmp 2] (Tryz.f64.body.getD .skip)
theorem Fi_copyNodes_ok : FnOk Tryz.prog 64 Fi_copyNodes := by
  unfold Fi_copyNodes
  exact mkFn_ok (fn := Tryz.f64) mix C_ok tab_i_copyNode_ok Tryz.func64 (by kernel_rfl) (by kernel_rfl) (by kernel_rfl) (by kernel_rfl) (by decide)
noncomputable def tab_i_copyNodes : Tab := fun f => bif f == 64 then some Fi_copyNodes else tab_i_copyNode f
theorem tab_i_copyNodes_ok : TabOk Tryz.prog tab_i_copyNodes := tab_cons tab_i_copyNode_ok Fi_copyNodes_ok
noncomputable def Fi_Support_hasPair : Am.Fn := mkFn C tab_i_copyNodes [0, 1, 2, 3, 4, 5, 7, 8, 9, 10, 14, 16, 17, 22, 23] 29 (fun k => bif k == 1 then some 78 else bif k == 1000002 then some 7182 else none) ⟨fun _ _ => none, fun s => Nat.testBit 8 s, fun r => bif r == 3 then [8, 10, 14, 15, 16, 17, 22, 23] else []⟩ [(ty122, .ro), (ty3, .ro), (ty3, .ro)] [(ty4, 0)] [.tmp 6] (Tryz.f65.body.getD .skip)
theorem Fi_Support_hasPair_ok : FnOk Tryz.prog 65 Fi_Support_hasPair := by
  unfold Fi_Support_hasPair
  exact mkFn_ok (fn := Tryz.f65) mix C_ok tab_i_copyNodes_ok Tryz.func65 (by kernel_rfl) (by kernel_rfl) (by kernel_rfl) (by kernel_rfl) (by decide)
noncomputable def tab_i_Support_hasPair : Tab := fun f => bif f == 65 then some Fi_Support_hasPair else tab_i_copyNodes f
theorem tab_i_Support_hasPair_ok : TabOk Tryz.prog tab_i_Support_hasPair := tab_cons tab_i_copyNodes_ok Fi_Support_hasPair_ok
noncomputable def Fi_copyCell : Am.Fn := mkFn C tab_i_Support_hasPair [0, 1, 2, 3, 4, 5, 6, 8, 13, 14, 18, 20] 29 (fun k => bif k == 1 then some 6 else bif k == 2 then some 14 else bif k == 4 then some 114702 else bif k == 5 then some 114734 else bif k == 7 then some 12 else bif k == 1000003 then some 114702 else none) ⟨fun _ _ => none, fun s => Nat.testBit 46 s, fun r => bif r == 1 then [9, 14, 18, 19] else bif r == 2 then [] else bif r == 3 then [21, 28] else bif r == 5 then [22] else []⟩ [(ty83, .ro)] [(ty83, 2)] [.cell 2 83] (Tryz.f118.body.getD .skip)
theorem Fi_copyCell_ok : FnOk Tryz.prog 118 Fi_copyCell := by
  unfold Fi_copyCell
  exact mkFn_ok (fn := Tryz.f118) mix C_ok tab_i_Support_hasPair_ok Tryz.func118 (by kernel_rfl) (by kernel_rfl) (by kernel_rfl) (by kernel_rfl) (by decide)
noncomputable def tab_i_copyCell : Tab := fun f => bif f == 118 then some Fi_copyCell else tab_i_Support_hasPair f
theorem tab_i_copyCell_ok : TabOk Tryz.prog tab_i_copyCell := tab_cons tab_i_Support_hasPair_ok Fi_copyCell_ok
noncomputable def Fi_copyPairs : Am.Fn := mkFn C tab_i_copyCell [0, 1, 3, 4, 5, 6, 7, 9, 13, 15, 19] 29 (fun k => bif k == 1000003 then some 3593 else bif k == 1000006 then some 233001 else none) ⟨fun _ _ => none, fun s => Nat.testBit 0 s, fun _ => []⟩ [(ty210, .ro)] [(ty120, 2)] [.tmp 2] (Tryz.f119.body.getD .skip)
theorem Fi_copyPairs_ok : FnOk Tryz.prog 119 Fi_copyPairs := by
  unfold Fi_copyPairs
  exact mkFn_ok (fn := Tryz.f119) mix C_ok tab_i_copyCell_ok Tryz.func119 (by kernel_rfl) (by kernel_rfl) (by kernel_rfl) (by kernel_rfl) (by decide)
noncomputable def tab_i_copyPairs : Tab := fun f => bif f == 119 then some Fi_copyPairs else tab_i_copyCell f
theorem tab_i_copyPairs_ok : TabOk Tryz.prog tab_i_copyPairs := tab_cons tab_i_copyCell_ok Fi_copyPairs_ok
noncomputable def Fi_copySupport : Am.Fn := mkFn C tab_i_copyPairs [0, 1, 2, 3, 6] 11 (fun k => bif k == 1 then some 6 else none) ⟨fun _ _ => none, fun s => Nat.testBit 6 s, fun r => bif r == 1 then [4, 7] else bif r == 2 then [] else []⟩ [(ty122, .ro)] [(ty122, 2)] [.cell 2 122] (Tryz.f66.body.getD .skip)
theorem Fi_copySupport_ok : FnOk Tryz.prog 66 Fi_copySupport := by
  unfold Fi_copySupport
  exact mkFn_ok (fn := Tryz.f66) mix C_ok tab_i_copyPairs_ok Tryz.func66 (by kernel_rfl) (by kernel_rfl) (by kernel_rfl) (by kernel_rfl) (by decide)
noncomputable def tab_i_copySupport : Tab := fun f => bif f == 66 then some Fi_copySupport else tab_i_copyPairs f
theorem tab_i_copySupport_ok : TabOk Tryz.prog tab_i_copySupport := tab_cons tab_i_copyPairs_ok Fi_copySupport_ok
noncomputable def Fi_ViewAfterRemove : Am.Fn := mkFn C tab_i_copySupport [0, 1, 2, 3, 4, 5, 6, 7, 8, 10, 11, 12, 13, 14, 15, 28, 33, 34, 38, 46, 47, 51, 53, 54, 59, 60, 65, 66, 71] 79 (fun k => bif k == 2 then some 768 else bif k == 3 then some 812 else bif k == 4 then some 1836 else bif k == 6 then some 120259086124 else bif k == 8 then some 120259090220 else bif k == 9 then some 120259094316 else bif k == 13 then some 985282677614380 else bif k == 15 then some 120259094316 else bif k == 17 then some 1792 else bif k == 1000005 then some 120259085612 else bif k == 1000010 then some 985282677581100 else none) ⟨fun _ _ => none, fun s => Nat.testBit 13600 s, fun r => bif r == 5 then [17, 29, 34, 38, 39] else bif r == 8 then [] else bif r == 10 then [72, 78] else bif r == 12 then [40, 44] else bif r == 13 then [15, 47, 51, 52, 53, 54, 59, 60, 65, 66, 69, 73] else []⟩ [(ty49, .ro), (ty46, .ro), (ty3, .ro), (ty3, .ro)] [(ty46, 3), (ty4, 0)] [.cell 8 46, .tmp 9] (Tryz.f20.body.getD .skip)
theorem Fi_ViewAfterRemove_ok : FnOk Tryz.prog 20 Fi_ViewAfterRemove := by
  unfold Fi_ViewAfterRemove
  exact mkFn_ok (fn := Tryz.f20) mix C_ok tab_i_copySupport_ok Tryz.func20 (by kernel_rfl) (by kernel_rfl) (by kernel_rfl) (by kernel_rfl) (by decide)
noncomputable def tab_i_ViewAfterRemove : Tab := fun f => bif f == 20 then some Fi_ViewAfterRemove else tab_i_copySupport f
theorem tab_i_ViewAfterRemove_ok : TabOk Tryz.prog tab_i_ViewAfterRemove := tab_cons tab_i_copySupport_ok Fi_ViewAfterRemove_ok
noncomputable def Fw_eqIntS : Am.Fn := mkFn C tab_i_ViewAfterRemove [0, 1, 2, 3, 5, 17, 19, 21, 23] 26 (fun k => bif k == 1000004 then some 35 else none) ⟨fun _ _ => none, fun s => Nat.testBit 0 s, fun _ => []⟩ [(ty59, .ro), (ty59, .ro)] [(ty4, 0)] [.tmp 4] (Tryz.f30.body.getD .skip)
theorem Fw_eqIntS_ok : FnOk Tryz.prog 30 Fw_eqIntS := by
  unfold Fw_eqIntS
  exact mkFn_ok (fn := Tryz.f30) mix C_ok tab_i_ViewAfterRemove_ok Tryz.func30 (by kernel_rfl) (by kernel_rfl) (by kernel_rfl) (by kernel_rfl) (by decide)
noncomputable def tab_w_eqIntS : Tab := fun f => bif f == 30 then some Fw_eqIntS else tab_i_ViewAfterRemove f
theorem tab_w_eqIntS_ok : TabOk Tryz.prog tab_w_eqIntS := tab_cons tab_i_ViewAfterRemove_ok Fw_eqIntS_ok
noncomputable def Fw_eqAtom : Am.Fn := mkFn C tab_w_eqIntS [0, 1, 2, 3, 5, 7, 11, 13, 16, 18] 21 (fun _ => none) ⟨fun _ _ => none, fun s => Nat.testBit 12 s, fun r => bif r == 2 then [6] else bif r == 3 then [8] else []⟩ [(ty85, .ro), (ty85, .ro)] [(ty4, 0)] [.tmp 4] (Tryz.f158.body.getD .skip)
theorem Fw_eqAtom_ok : FnOk Tryz.prog 158 Fw_eqAtom := by
  unfold Fw_eqAtom
  exact mkFn_ok (fn := Tryz.f158) mix C_ok tab_w_eqIntS_ok Tryz.func158 (by kernel_rfl) (by kernel_rfl) (by kernel_rfl) (by kernel_rfl) (by decide)
noncomputable def tab_w_eqAtom : Tab := fun f => bif f == 158 then some Fw_eqAtom else tab_w_eqIntS f
theorem tab_w_eqAtom_ok : TabOk Tryz.prog tab_w_eqAtom := tab_cons tab_w_eqIntS_ok Fw_eqAtom_ok
noncomputable def Fw_eqNode : Am.Fn := mkFn C tab_w_eqAtom [0, 1, 2, 3, 5, 7, 10, 12, 16, 18, 21, 23, 26, 28, 32, 34, 37, 39, 42, 44] 47 (fun _ => none) ⟨fun _ _ => none, fun s => Nat.testBit 12 s, fun r => bif r == 2 then [11, 27] else bif r == 3 then [13, 29] else []⟩ [(ty173, .ro), (ty173, .ro)] [(ty4, 0)] [.tmp 4] (Tryz.f120.body.getD .skip)
theorem Fw_eqNode_ok : FnOk Tryz.prog 120 Fw_eqNode := by
  unfold Fw_eqNode
  exact mkFn_ok (fn := Tryz.f120) mix C_ok tab_w_eqAtom_ok Tryz.func120 (by kernel_rfl) (by kernel_rfl) (by kernel_rfl) (by kernel_rfl) (by decide)
noncomputable def tab_w_eqNode : Tab := fun f => bif f == 120 then some Fw_eqNode else tab_w_eqAtom f
theorem tab_w_eqNode_ok : TabOk Tryz.prog tab_w_eqNode := tab_cons tab_w_eqAtom_ok Fw_eqNode_ok
noncomputable def Fw_eqNodeS : Am.Fn := mkFn C tab_w_eqNode [0, 1, 2, 3, 5, 17, 19, 21, 23] 27 (fun k => bif k == 1000004 then some 35 else none) ⟨fun _ _ => none, fun s => Nat.testBit 0 s, fun _ => []⟩ [(ty43, .ro), (ty43, .ro)] [(ty4, 0)] [.tmp 4] (Tryz.f67.body.getD .skip)
theorem Fw_eqNodeS_ok : FnOk Tryz.prog 67 Fw_eqNodeS := by
  unfold Fw_eqNodeS
  exact mkFn_ok (fn := Tryz.f67) mix C_ok tab_w_eqNode_ok Tryz.func67 (by kernel_rfl) (by kernel_rfl) (by kernel_rfl) (by kernel_rfl) (by decide)
noncomputable def tab_w_eqNodeS : Tab := fun f => bif f == 67 then some Fw_eqNodeS else tab_w_eqNode f
theorem tab_w_eqNodeS_ok : TabOk Tryz.prog tab_w_eqNodeS := tab_cons tab_w_eqNode_ok Fw_eqNodeS_ok
noncomputable def Fw_eqAtomS : Am.Fn := mkFn C tab_w_eqNodeS [0, 1, 2, 3, 5, 17, 19, 21, 23] 27 (fun k => bif k == 1000004 then some 35 else none) ⟨fun _ _ => none, fun s => Nat.testBit 0 s, fun _ => []⟩ [(ty78, .ro), (ty78, .ro)] [(ty4, 0)] [.tmp 4] (Tryz.f145.body.getD .skip)
theorem Fw_eqAtomS_ok : FnOk Tryz.prog 145 Fw_eqAtomS := by
  unfold Fw_eqAtomS
  exact mkFn_ok (fn := Tryz.f145) mix C_ok tab_w_eqNodeS_ok Tryz.func145 (by kernel_rfl) (by kernel_rfl) (by kernel_rfl) (by kernel_rfl) (by decide)
noncomputable def tab_w_eqAtomS : Tab := fun f => bif f == 145 then some Fw_eqAtomS else tab_w_eqNodeS f
theorem tab_w_eqAtomS_ok : TabOk Tryz.prog tab_w_eqAtomS := tab_cons tab_w_eqNodeS_ok Fw_eqAtomS_ok
noncomputable def Fw_eqCell : Am.Fn := mkFn C tab_w_eqAtomS [0, 1, 2, 3, 5, 7, 10, 12] 16 (fun _ => none) ⟨fun _ _ => none, fun s => Nat.testBit 12 s, fun r => bif r == 2 then [11] else bif r == 3 then [13] else []⟩ [(ty83, .ro), (ty83, .ro)] [(ty4, 0)] [.tmp 4] (Tryz.f104.body.getD .skip)
theorem Fw_eqCell_ok : FnOk Tryz.prog 104 Fw_eqCell := by
  unfold Fw_eqCell
  exact mkFn_ok (fn := Tryz.f104) mix C_ok tab_w_eqAtomS_ok Tryz.func104 (by kernel_rfl) (by kernel_rfl) (by kernel_rfl) (by kernel_rfl) (by decide)
noncomputable def tab_w_eqCell : Tab := fun f => bif f == 104 then some Fw_eqCell else tab_w_eqAtomS f
theorem tab_w_eqCell_ok : TabOk Tryz.prog tab_w_eqCell := tab_cons tab_w_eqAtomS_ok Fw_eqCell_ok
noncomputable def Fw_eqIntSS : Am.Fn := mkFn C tab_w_eqCell [0, 1, 2, 3, 5, 17, 19, 21, 23] 27 (fun k => bif k == 1000004 then some 35 else none) ⟨fun _ _ => none, fun s => Nat.testBit 0 s, fun _ => []⟩ [(ty120, .ro), (ty120, .ro)] [(ty4, 0)] [.tmp 4] (Tryz.f159.body.getD .skip)
theorem Fw_eqIntSS_ok : FnOk Tryz.prog 159 Fw_eqIntSS := by
  unfold Fw_eqIntSS
  exact mkFn_ok (fn := Tryz.f159) mix C_ok tab_w_eqCell_ok Tryz.func159 (by kernel_rfl) (by kernel_rfl) (by kernel_rfl) (by kernel_rfl) (by decide)
noncomputable def tab_w_eqIntSS : Tab := fun f => bif f == 159 then some Fw_eqIntSS else tab_w_eqCell f
theorem tab_w_eqIntSS_ok : TabOk Tryz.prog tab_w_eqIntSS := tab_cons tab_w_eqCell_ok Fw_eqIntSS_ok
noncomputable def Fw_eqSupport : Am.Fn := mkFn C tab_w_eqIntSS [0, 1, 2, 3, 5, 7, 11, 13] 17 (fun _ => none) ⟨fun _ _ => none, fun s => Nat.testBit 12 s, fun r => bif r == 2 then [6, 12] else bif r == 3 then [8, 14] else []⟩ [(ty122, .ro), (ty122, .ro)] [(ty4, 0)] [.tmp 4] (Tryz.f121.body.getD .skip)
theorem Fw_eqSupport_ok : FnOk Tryz.prog 121 Fw_eqSupport := by
  unfold Fw_eqSupport
  exact mkFn_ok (fn := Tryz.f121) mix C_ok tab_w_eqIntSS_ok Tryz.func121 (by kernel_rfl) (by kernel_rfl) (by kernel_rfl) (by kernel_rfl) (by decide)
noncomputable def tab_w_eqSupport : Tab := fun f => bif f == 121 then some Fw_eqSupport else tab_w_eqIntSS f
theorem tab_w_eqSupport_ok : TabOk Tryz.prog tab_w_eqSupport := tab_cons tab_w_eqIntSS_ok Fw_eqSupport_ok
noncomputable def Fw_eqSupportS : Am.Fn := mkFn C tab_w_eqSupport [0, 1, 2, 3, 5, 17, 19, 21, 23] 27 (fun k => bif k == 1000004 then some 35 else none) ⟨fun _ _ => none, fun s => Nat.testBit 0 s, fun _ => []⟩ [(ty44, .ro), (ty44, .ro)] [(ty4, 0)] [.tmp 4] (Tryz.f68.body.getD .skip)
theorem Fw_eqSupportS_ok : FnOk Tryz.prog 68 Fw_eqSupportS := by
  unfold Fw_eqSupportS
  exact mkFn_ok (fn := Tryz.f68) mix C_ok tab_w_eqSupport_ok Tryz.func68 (by kernel_rfl) (by kernel_rfl) (by kernel_rfl) (by kernel_rfl) (by decide)
noncomputable def tab_w_eqSupportS : Tab := fun f => bif f == 68 then some Fw_eqSupportS else tab_w_eqSupport f
theorem tab_w_eqSupportS_ok : TabOk Tryz.prog tab_w_eqSupportS := tab_cons tab_w_eqSupport_ok Fw_eqSupportS_ok
noncomputable def Fw_eqView : Am.Fn := mkFn C tab_w_eqSupportS [0, 1, 2, 3, 5, 7, 11, 13] 17 (fun _ => none) ⟨fun _ _ => none, fun s => Nat.testBit 12 s, fun r => bif r == 2 then [6, 12] else bif r == 3 then [8, 14] else []⟩ [(ty46, .ro), (ty46, .ro)] [(ty4, 0)] [.tmp 4] (Tryz.f21.body.getD .skip)
theorem Fw_eqView_ok : FnOk Tryz.prog 21 Fw_eqView := by
  unfold Fw_eqView
  exact mkFn_ok (fn := Tryz.f21) mix C_ok tab_w_eqSupportS_ok Tryz.func21 (by kernel_rfl) (by kernel_rfl) (by kernel_rfl) (by kernel_rfl) (by decide)
noncomputable def tab_w_eqView : Tab := fun f => bif f == 21 then some Fw_eqView else tab_w_eqSupportS f
theorem tab_w_eqView_ok : TabOk Tryz.prog tab_w_eqView := tab_cons tab_w_eqSupportS_ok Fw_eqView_ok
noncomputable def Fw_eqRow : Am.Fn := mkFn C tab_w_eqView [0, 1, 2, 3, 5, 7, 10, 12] 16 (fun _ => none) ⟨fun _ _ => none, fun s => Nat.testBit 12 s, fun r => bif r == 2 then [11] else bif r == 3 then [13] else []⟩ [(ty184, .ro), (ty184, .ro)] [(ty4, 0)] [.tmp 4] (Tryz.f160.body.getD .skip)
theorem Fw_eqRow_ok : FnOk Tryz.prog 160 Fw_eqRow := by
  unfold Fw_eqRow
  exact mkFn_ok (fn := Tryz.f160) mix C_ok tab_w_eqView_ok Tryz.func160 (by kernel_rfl) (by kernel_rfl) (by kernel_rfl) (by kernel_rfl) (by decide)
noncomputable def tab_w_eqRow : Tab := fun f => bif f == 160 then some Fw_eqRow else tab_w_eqView f
theorem tab_w_eqRow_ok : TabOk Tryz.prog tab_w_eqRow := tab_cons tab_w_eqView_ok Fw_eqRow_ok
noncomputable def Fw_eqRowS : Am.Fn := mkFn C tab_w_eqRow [0, 1, 2, 3, 5, 17, 19, 21, 23] 27 (fun k => bif k == 1000004 then some 35 else none) ⟨fun _ _ => none, fun s => Nat.testBit 0 s, fun _ => []⟩ [(ty115, .ro), (ty115, .ro)] [(ty4, 0)] [.tmp 4] (Tryz.f122.body.getD .skip)
theorem Fw_eqRowS_ok : FnOk Tryz.prog 122 Fw_eqRowS := by
  unfold Fw_eqRowS
  exact mkFn_ok (fn := Tryz.f122) mix C_ok tab_w_eqRow_ok Tryz.func122 (by kernel_rfl) (by kernel_rfl) (by kernel_rfl) (by kernel_rfl) (by decide)
noncomputable def tab_w_eqRowS : Tab := fun f => bif f == 122 then some Fw_eqRowS else tab_w_eqRow f
theorem tab_w_eqRowS_ok : TabOk Tryz.prog tab_w_eqRowS := tab_cons tab_w_eqRow_ok Fw_eqRowS_ok
noncomputable def Fw_eqRelation : Am.Fn := mkFn C tab_w_eqRowS [0, 1, 2, 3, 5, 7, 10, 12, 15, 17] 21 (fun _ => none) ⟨fun _ _ => none, fun s => Nat.testBit 12 s, fun r => bif r == 2 then [16] else bif r == 3 then [18] else []⟩ [(ty117, .ro), (ty117, .ro)] [(ty4, 0)] [.tmp 4] (Tryz.f69.body.getD .skip)
theorem Fw_eqRelation_ok : FnOk Tryz.prog 69 Fw_eqRelation := by
  unfold Fw_eqRelation
  exact mkFn_ok (fn := Tryz.f69) mix C_ok tab_w_eqRowS_ok Tryz.func69 (by kernel_rfl) (by kernel_rfl) (by kernel_rfl) (by kernel_rfl) (by decide)
noncomputable def tab_w_eqRelation : Tab := fun f => bif f == 69 then some Fw_eqRelation else tab_w_eqRowS f
theorem tab_w_eqRelation_ok : TabOk Tryz.prog tab_w_eqRelation := tab_cons tab_w_eqRowS_ok Fw_eqRelation_ok
noncomputable def Fw_eqRelationS : Am.Fn := mkFn C tab_w_eqRelation [0, 1, 2, 3, 5, 17, 19, 21, 23] 27 (fun k => bif k == 1000004 then some 35 else none) ⟨fun _ _ => none, fun s => Nat.testBit 0 s, fun _ => []⟩ [(ty49, .ro), (ty49, .ro)] [(ty4, 0)] [.tmp 4] (Tryz.f22.body.getD .skip)
theorem Fw_eqRelationS_ok : FnOk Tryz.prog 22 Fw_eqRelationS := by
  unfold Fw_eqRelationS
  exact mkFn_ok (fn := Tryz.f22) mix C_ok tab_w_eqRelation_ok Tryz.func22 (by kernel_rfl) (by kernel_rfl) (by kernel_rfl) (by kernel_rfl) (by decide)
noncomputable def tab_w_eqRelationS : Tab := fun f => bif f == 22 then some Fw_eqRelationS else tab_w_eqRelation f
theorem tab_w_eqRelationS_ok : TabOk Tryz.prog tab_w_eqRelationS := tab_cons tab_w_eqRelation_ok Fw_eqRelationS_ok
noncomputable def Fw_markText : Am.Fn := mkFn C tab_w_eqRelationS [0, 1, 3] 20 (fun k => bif k == 1000004 then some 9 else none) ⟨fun _ _ => none, fun s => Nat.testBit 0 s, fun _ => []⟩ [(ty3, .ro)] [(ty9, 0)] [.tmp 2] (Tryz.f70.body.getD .skip)
theorem Fw_markText_ok : FnOk Tryz.prog 70 Fw_markText := by
  unfold Fw_markText
  exact mkFn_ok (fn := Tryz.f70) mix C_ok tab_w_eqRelationS_ok Tryz.func70 (by kernel_rfl) (by kernel_rfl) (by kernel_rfl) (by kernel_rfl) (by decide)
noncomputable def tab_w_markText : Tab := fun f => bif f == 70 then some Fw_markText else tab_w_eqRelationS f
theorem tab_w_markText_ok : TabOk Tryz.prog tab_w_markText := tab_cons tab_w_eqRelationS_ok Fw_markText_ok
noncomputable def Fw_markIntS : Am.Fn := mkFn C tab_w_markText [0, 1, 2, 3, 5, 12] 19 (fun k => bif k == 1000002 then some 35 else none) ⟨fun _ _ => none, fun s => Nat.testBit 0 s, fun _ => []⟩ [(ty59, .mut 1), (ty3, .ro)] [(ty3, 0)] [.tmp 4] (Tryz.f33.body.getD .skip)
theorem Fw_markIntS_ok : FnOk Tryz.prog 33 Fw_markIntS := by
  unfold Fw_markIntS
  exact mkFn_ok (fn := Tryz.f33) mix C_ok tab_w_markText_ok Tryz.func33 (by kernel_rfl) (by kernel_rfl) (by kernel_rfl) (by kernel_rfl) (by decide)
noncomputable def tab_w_markIntS : Tab := fun f => bif f == 33 then some Fw_markIntS else tab_w_markText f
theorem tab_w_markIntS_ok : TabOk Tryz.prog tab_w_markIntS := tab_cons tab_w_markText_ok Fw_markIntS_ok
noncomputable def Fw_markAtomS : Am.Fn := mkFn C tab_w_markIntS [0, 1, 2, 3, 5, 12, 14, 15, 19, 22, 26, 31] 36 (fun k => bif k == 1000002 then some 35 else none) ⟨fun _ _ => none, fun s => Nat.testBit 0 s, fun _ => []⟩ [(ty78, .mut 2), (ty3, .ro)] [(ty3, 0)] [.tmp 4] (Tryz.f105.body.getD .skip)
theorem Fw_markAtomS_ok : FnOk Tryz.prog 105 Fw_markAtomS := by
  unfold Fw_markAtomS
  exact mkFn_ok (fn := Tryz.f105) mix C_ok tab_w_markIntS_ok Tryz.func105 (by kernel_rfl) (by kernel_rfl) (by kernel_rfl) (by kernel_rfl) (by decide)
noncomputable def tab_w_markAtomS : Tab := fun f => bif f == 105 then some Fw_markAtomS else tab_w_markIntS f
theorem tab_w_markAtomS_ok : TabOk Tryz.prog tab_w_markAtomS := tab_cons tab_w_markIntS_ok Fw_markAtomS_ok
noncomputable def Fw_markRowS : Am.Fn := mkFn C tab_w_markAtomS [0, 1, 2, 3, 5, 12, 16, 20, 23, 24, 28, 30, 31, 32] 37 (fun k => bif k == 1000002 then some 35 else none) ⟨fun _ _ => none, fun s => Nat.testBit 0 s, fun _ => []⟩ [(ty115, .mut 3), (ty3, .ro)] [(ty3, 0)] [.tmp 4] (Tryz.f71.body.getD .skip)
theorem Fw_markRowS_ok : FnOk Tryz.prog 71 Fw_markRowS := by
  unfold Fw_markRowS
  exact mkFn_ok (fn := Tryz.f71) mix C_ok tab_w_markAtomS_ok Tryz.func71 (by kernel_rfl) (by kernel_rfl) (by kernel_rfl) (by kernel_rfl) (by decide)
noncomputable def tab_w_markRowS : Tab := fun f => bif f == 71 then some Fw_markRowS else tab_w_markAtomS f
theorem tab_w_markRowS_ok : TabOk Tryz.prog tab_w_markRowS := tab_cons tab_w_markAtomS_ok Fw_markRowS_ok
noncomputable def Fw_markRelationS : Am.Fn := mkFn C tab_w_markRowS [0, 1, 2, 3, 5, 12, 16, 20, 23, 27, 29, 30] 35 (fun k => bif k == 1000002 then some 35 else none) ⟨fun _ _ => none, fun s => Nat.testBit 0 s, fun _ => []⟩ [(ty49, .mut 4), (ty3, .ro)] [(ty3, 0)] [.tmp 4] (Tryz.f23.body.getD .skip)
theorem Fw_markRelationS_ok : FnOk Tryz.prog 23 Fw_markRelationS := by
  unfold Fw_markRelationS
  exact mkFn_ok (fn := Tryz.f23) mix C_ok tab_w_markRowS_ok Tryz.func23 (by kernel_rfl) (by kernel_rfl) (by kernel_rfl) (by kernel_rfl) (by decide)
noncomputable def tab_w_markRelationS : Tab := fun f => bif f == 23 then some Fw_markRelationS else tab_w_markRowS f
theorem tab_w_markRelationS_ok : TabOk Tryz.prog tab_w_markRelationS := tab_cons tab_w_markRowS_ok Fw_markRelationS_ok
noncomputable def Fw_markNodeS : Am.Fn := mkFn C tab_w_markRelationS [0, 1, 2, 3, 5, 12, 15, 19, 21, 22, 23, 27, 30, 31, 35, 40, 41, 45, 49, 53, 57, 61, 63, 64, 68, 71, 75, 78, 82, 85] 90 (fun k => bif k == 1000002 then some 35 else none) ⟨fun _ _ => none, fun s => Nat.testBit 0 s, fun _ => []⟩ [(ty43, .mut 2), (ty3, .ro)] [(ty3, 0)] [.tmp 4] (Tryz.f72.body.getD .skip)
theorem Fw_markNodeS_ok : FnOk Tryz.prog 72 Fw_markNodeS := by
  unfold Fw_markNodeS
  exact mkFn_ok (fn := Tryz.f72) mix C_ok tab_w_markRelationS_ok Tryz.func72 (by kernel_rfl) (by kernel_rfl) (by kernel_rfl) (by kernel_rfl) (by decide)
noncomputable def tab_w_markNodeS : Tab := fun f => bif f == 72 then some Fw_markNodeS else tab_w_markRelationS f
theorem tab_w_markNodeS_ok : TabOk Tryz.prog tab_w_markNodeS := tab_cons tab_w_markRelationS_ok Fw_markNodeS_ok
noncomputable def Fw_markIntSS : Am.Fn := mkFn C tab_w_markNodeS [0, 1, 2, 3, 5, 12, 14] 19 (fun k => bif k == 1000002 then some 35 else none) ⟨fun _ _ => none, fun s => Nat.testBit 0 s, fun _ => []⟩ [(ty120, .mut 2), (ty3, .ro)] [(ty3, 0)] [.tmp 4] (Tryz.f123.body.getD .skip)
theorem Fw_markIntSS_ok : FnOk Tryz.prog 123 Fw_markIntSS := by
  unfold Fw_markIntSS
  exact mkFn_ok (fn := Tryz.f123) mix C_ok tab_w_markNodeS_ok Tryz.func123 (by kernel_rfl) (by kernel_rfl) (by kernel_rfl) (by kernel_rfl) (by decide)
noncomputable def tab_w_markIntSS : Tab := fun f => bif f == 123 then some Fw_markIntSS else tab_w_markNodeS f
theorem tab_w_markIntSS_ok : TabOk Tryz.prog tab_w_markIntSS := tab_cons tab_w_markNodeS_ok Fw_markIntSS_ok
noncomputable def Fw_markSupportS : Am.Fn := mkFn C tab_w_markIntSS [0, 1, 2, 3, 5, 12, 15, 16, 20, 22, 23, 24, 28, 30, 31] 36 (fun k => bif k == 1000002 then some 35 else none) ⟨fun _ _ => none, fun s => Nat.testBit 0 s, fun _ => []⟩ [(ty44, .mut 3), (ty3, .ro)] [(ty3, 0)] [.tmp 4] (Tryz.f73.body.getD .skip)
theorem Fw_markSupportS_ok : FnOk Tryz.prog 73 Fw_markSupportS := by
  unfold Fw_markSupportS
  exact mkFn_ok (fn := Tryz.f73) mix C_ok tab_w_markIntSS_ok Tryz.func73 (by kernel_rfl) (by kernel_rfl) (by kernel_rfl) (by kernel_rfl) (by decide)
noncomputable def tab_w_markSupportS : Tab := fun f => bif f == 73 then some Fw_markSupportS else tab_w_markIntSS f
theorem tab_w_markSupportS_ok : TabOk Tryz.prog tab_w_markSupportS := tab_cons tab_w_markIntSS_ok Fw_markSupportS_ok
noncomputable def Fw_markView : Am.Fn := mkFn C tab_w_markSupportS [0, 1, 2, 3, 5, 9] 14 (fun _ => none) ⟨fun _ _ => none, fun s => Nat.testBit 4 s, fun r => bif r == 2 then [6, 10] else []⟩ [(ty46, .mut 3), (ty3, .ro)] [(ty3, 0)] [.tmp 4] (Tryz.f24.body.getD .skip)
theorem Fw_markView_ok : FnOk Tryz.prog 24 Fw_markView := by
  unfold Fw_markView
  exact mkFn_ok (fn := Tryz.f24) mix C_ok tab_w_markSupportS_ok Tryz.func24 (by kernel_rfl) (by kernel_rfl) (by kernel_rfl) (by kernel_rfl) (by decide)
noncomputable def tab_w_markView : Tab := fun f => bif f == 24 then some Fw_markView else tab_w_markSupportS f
theorem tab_w_markView_ok : TabOk Tryz.prog tab_w_markView := tab_cons tab_w_markSupportS_ok Fw_markView_ok
noncomputable def Fw_heldIntS : Am.Fn := mkFn C tab_w_markView [0, 1, 2, 3, 5, 12, 14] 21 (fun k => bif k == 1000002 then some 35 else none) ⟨fun _ _ => none, fun s => Nat.testBit 0 s, fun _ => []⟩ [(ty59, .ro), (ty3, .ro)] [(ty3, 0)] [.tmp 4] (Tryz.f34.body.getD .skip)
theorem Fw_heldIntS_ok : FnOk Tryz.prog 34 Fw_heldIntS := by
  unfold Fw_heldIntS
  exact mkFn_ok (fn := Tryz.f34) mix C_ok tab_w_markView_ok Tryz.func34 (by kernel_rfl) (by kernel_rfl) (by kernel_rfl) (by kernel_rfl) (by decide)
noncomputable def tab_w_heldIntS : Tab := fun f => bif f == 34 then some Fw_heldIntS else tab_w_markView f
theorem tab_w_heldIntS_ok : TabOk Tryz.prog tab_w_heldIntS := tab_cons tab_w_markView_ok Fw_heldIntS_ok
noncomputable def Fw_heldNodeS : Am.Fn := mkFn C tab_w_heldIntS [0, 1, 2, 3, 5, 12, 14, 15, 21, 23, 24, 25, 31, 33, 34, 35, 41, 43, 44, 45, 53, 55, 56, 63, 65, 66, 73, 75, 76, 82, 84, 85, 91, 93, 94, 100, 102, 103] 110 (fun k => bif k == 1000002 then some 35 else none) ⟨fun _ _ => none, fun s => Nat.testBit 0 s, fun _ => []⟩ [(ty43, .ro), (ty3, .ro)] [(ty3, 0)] [.tmp 4] (Tryz.f74.body.getD .skip)
theorem Fw_heldNodeS_ok : FnOk Tryz.prog 74 Fw_heldNodeS := by
  unfold Fw_heldNodeS
  exact mkFn_ok (fn := Tryz.f74) mix C_ok tab_w_heldIntS_ok Tryz.func74 (by kernel_rfl) (by kernel_rfl) (by kernel_rfl) (by kernel_rfl) (by decide)
noncomputable def tab_w_heldNodeS : Tab := fun f => bif f == 74 then some Fw_heldNodeS else tab_w_heldIntS f
theorem tab_w_heldNodeS_ok : TabOk Tryz.prog tab_w_heldNodeS := tab_cons tab_w_heldIntS_ok Fw_heldNodeS_ok
noncomputable def Fw_heldAtomS : Am.Fn := mkFn C tab_w_heldNodeS [0, 1, 2, 3, 5, 12, 14, 15, 21, 23, 24, 30, 32, 33] 42 (fun k => bif k == 1000002 then some 35 else none) ⟨fun _ _ => none, fun s => Nat.testBit 0 s, fun _ => []⟩ [(ty78, .ro), (ty3, .ro)] [(ty3, 0)] [.tmp 4] (Tryz.f106.body.getD .skip)
theorem Fw_heldAtomS_ok : FnOk Tryz.prog 106 Fw_heldAtomS := by
  unfold Fw_heldAtomS
  exact mkFn_ok (fn := Tryz.f106) mix C_ok tab_w_heldNodeS_ok Tryz.func106 (by kernel_rfl) (by kernel_rfl) (by kernel_rfl) (by kernel_rfl) (by decide)
noncomputable def tab_w_heldAtomS : Tab := fun f => bif f == 106 then some Fw_heldAtomS else tab_w_heldNodeS f
theorem tab_w_heldAtomS_ok : TabOk Tryz.prog tab_w_heldAtomS := tab_cons tab_w_heldNodeS_ok Fw_heldAtomS_ok
noncomputable def Fw_heldIntSS : Am.Fn := mkFn C tab_w_heldAtomS [0, 1, 2, 3, 5, 12, 14] 21 (fun k => bif k == 1000002 then some 35 else none) ⟨fun _ _ => none, fun s => Nat.testBit 0 s, fun _ => []⟩ [(ty120, .ro), (ty3, .ro)] [(ty3, 0)] [.tmp 4] (Tryz.f124.body.getD .skip)
theorem Fw_heldIntSS_ok : FnOk Tryz.prog 124 Fw_heldIntSS := by
  unfold Fw_heldIntSS
  exact mkFn_ok (fn := Tryz.f124) mix C_ok tab_w_heldAtomS_ok Tryz.func124 (by kernel_rfl) (by kernel_rfl) (by kernel_rfl) (by kernel_rfl) (by decide)
noncomputable def tab_w_heldIntSS : Tab := fun f => bif f == 124 then some Fw_heldIntSS else tab_w_heldAtomS f
theorem tab_w_heldIntSS_ok : TabOk Tryz.prog tab_w_heldIntSS := tab_cons tab_w_heldAtomS_ok Fw_heldIntSS_ok
noncomputable def Fw_heldSupportS : Am.Fn := mkFn C tab_w_heldIntSS [0, 1, 2, 3, 5, 12, 14, 15, 16, 22, 24, 25, 26, 32, 34, 35] 42 (fun k => bif k == 1000002 then some 35 else none) ⟨fun _ _ => none, fun s => Nat.testBit 0 s, fun _ => []⟩ [(ty44, .ro), (ty3, .ro)] [(ty3, 0)] [.tmp 4] (Tryz.f75.body.getD .skip)
theorem Fw_heldSupportS_ok : FnOk Tryz.prog 75 Fw_heldSupportS := by
  unfold Fw_heldSupportS
  exact mkFn_ok (fn := Tryz.f75) mix C_ok tab_w_heldIntSS_ok Tryz.func75 (by kernel_rfl) (by kernel_rfl) (by kernel_rfl) (by kernel_rfl) (by decide)
noncomputable def tab_w_heldSupportS : Tab := fun f => bif f == 75 then some Fw_heldSupportS else tab_w_heldIntSS f
theorem tab_w_heldSupportS_ok : TabOk Tryz.prog tab_w_heldSupportS := tab_cons tab_w_heldIntSS_ok Fw_heldSupportS_ok
noncomputable def Fw_heldView : Am.Fn := mkFn C tab_w_heldSupportS [0, 1, 2, 3, 5, 11] 18 (fun _ => none) ⟨fun _ _ => none, fun s => Nat.testBit 4 s, fun r => bif r == 2 then [6, 12] else []⟩ [(ty46, .ro), (ty3, .ro)] [(ty3, 0)] [.tmp 4] (Tryz.f25.body.getD .skip)
theorem Fw_heldView_ok : FnOk Tryz.prog 25 Fw_heldView := by
  unfold Fw_heldView
  exact mkFn_ok (fn := Tryz.f25) mix C_ok tab_w_heldSupportS_ok Tryz.func25 (by kernel_rfl) (by kernel_rfl) (by kernel_rfl) (by kernel_rfl) (by decide)
noncomputable def tab_w_heldView : Tab := fun f => bif f == 25 then some Fw_heldView else tab_w_heldSupportS f
theorem tab_w_heldView_ok : TabOk Tryz.prog tab_w_heldView := tab_cons tab_w_heldSupportS_ok Fw_heldView_ok
noncomputable def Fw_FnExactViewAfterRemove : Am.Fn := mkFn C tab_w_heldView [0, 1, 2, 3, 4, 5, 6, 7, 9, 10, 11, 12, 13, 14, 15, 16, 17, 18, 19, 20, 31, 45, 102] 129 (fun k => bif k == 8 then some 301 else bif k == 10 then some 7469 else bif k == 11 then some 15661 else bif k == 31 then some 150829 else none) ⟨fun d i => bif d == 31 then (bif i == 0 then some 39 else bif i == 1 then some 40 else none) else bif d == 45 then (bif i == 0 then some 51 else bif i == 1 then some 52 else none) else bif d == 102 then (bif i == 0 then some 110 else bif i == 1 then some 111 else none) else none, fun s => Nat.testBit 549920 s, fun r => bif r == 5 then [26, 34, 43, 68, 105] else bif r == 10 then [54, 82, 113] else bif r == 13 then [47, 67, 75] else bif r == 14 then [53, 81, 91, 94, 121] else bif r == 19 then [112] else []⟩ [(ty36, .ro), (ty40, .ro), (ty3, .ro), (ty3, .ro)] [(ty4, 0)] [.tmp 8] (Tryz.f4.body.getD .skip)
theorem Fw_FnExactViewAfterRemove_ok : FnOk Tryz.prog 4 Fw_FnExactViewAfterRemove := by
  unfold Fw_FnExactViewAfterRemove
  exact mkFn_ok (fn := Tryz.f4) mix C_ok tab_w_heldView_ok Tryz.func4 (by kernel_rfl) (by kernel_rfl) (by kernel_rfl) (by kernel_rfl) (by decide)
noncomputable def tab_w_FnExactViewAfterRemove : Tab := fun f => bif f == 4 then some Fw_FnExactViewAfterRemove else tab_w_heldView f
theorem tab_w_FnExactViewAfterRemove_ok : TabOk Tryz.prog tab_w_FnExactViewAfterRemove := tab_cons tab_w_heldView_ok Fw_FnExactViewAfterRemove_ok
end Go.Proofs.YtkanidldnnfloaaGreat.P.It
