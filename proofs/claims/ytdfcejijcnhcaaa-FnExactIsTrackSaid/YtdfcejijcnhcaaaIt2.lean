/- A part of the proof: It2. No conditions. -/
import Derived.Test.YtdfcejijcnhcaaaAm35
import Derived.Test.YtdfcejijcnhcaaaChecked
import Derived.KernelRfl
set_option linter.unusedVariables false
namespace Go.Proofs.Ytdfcejijcnhcaaa.It
open Am
abbrev ty1 : Ty := (.raw 1)
abbrev ty2 : Ty := (.int .i64)
abbrev ty3 : Ty := (.int .i64)
abbrev ty4 : Ty := .bool
abbrev ty5 : Ty := (.int .u8)
abbrev ty6 : Ty := (.int .u8)
abbrev ty7 : Ty := (.agg (.pair ty2 (.pair ty3 (.pair ty4 ty6))))
abbrev ty8 : Ty := (.agg (.pair ty2 (.pair ty3 (.pair ty4 ty6))))
abbrev ty9 : Ty := .str
abbrev ty10 : Ty := .str
abbrev ty11 : Ty := .str
abbrev ty12 : Ty := (.int .u64)
abbrev ty15 : Ty := (.raw 0)
abbrev ty16 : Ty := (.raw 0)
abbrev ty17 : Ty := (.raw 0)
abbrev ty20 : Ty := (.raw 2)
abbrev ty21 : Ty := (.int .i32)
abbrev ty23 : Ty := (.raw 1)
abbrev ty24 : Ty := (.raw 1)
abbrev ty26 : Ty := (.raw 1)
abbrev ty27 : Ty := (.raw 1)
abbrev ty28 : Ty := (.raw 1)
abbrev ty30 : Ty := (.raw 1)
abbrev ty31 : Ty := (.raw 1)
abbrev ty32 : Ty := (.raw 1)
abbrev ty33 : Ty := (.agg (.pair ty3 ty3))
abbrev ty34 : Ty := (.agg (.pair ty3 ty3))
abbrev ty35 : Ty := (.raw 1)
abbrev ty36 : Ty := (.agg (.pair ty3 ty3))
abbrev ty37 : Ty := (.raw 1)
abbrev ty38 : Ty := (.raw 1)
abbrev ty40 : Ty := (.raw 1)
abbrev ty41 : Ty := (.raw 1)
abbrev ty45 : Ty := (.slice 3 ty3)
abbrev ty46 : Ty := (.raw 1)
abbrev ty51 : Ty := (.raw 1)
abbrev ty52 : Ty := (.raw 1)
abbrev ty53 : Ty := (.raw 1)
abbrev ty54 : Ty := (.raw 1)
abbrev ty55 : Ty := (.raw 1)
abbrev ty56 : Ty := (.raw 1)
abbrev ty57 : Ty := (.raw 1)
abbrev ty58 : Ty := (.raw 1)
abbrev ty59 : Ty := (.slice 5 ty5)
abbrev ty60 : Ty := (.raw 1)
abbrev ty62 : Ty := (.raw 1)
abbrev ty63 : Ty := (.slice 36 ty36)
abbrev ty64 : Ty := (.raw 1)
abbrev ty66 : Ty := (.raw 1)
abbrev ty67 : Ty := (.raw 1)
abbrev ty68 : Ty := (.raw 1)
abbrev ty69 : Ty := (.raw 1)
abbrev ty70 : Ty := (.raw 1)
abbrev ty71 : Ty := (.raw 1)
abbrev ty72 : Ty := (.raw 1)
abbrev ty74 : Ty := (.raw 1)
abbrev ty75 : Ty := (.raw 1)
abbrev ty76 : Ty := (.agg (.pair ty36 (.pair ty36 ty36)))
abbrev ty77 : Ty := (.agg (.pair ty36 (.pair ty36 ty36)))
abbrev ty81 : Ty := (.raw 1)
abbrev ty82 : Ty := (.raw 1)
abbrev ty83 : Ty := (.raw 1)
abbrev ty85 : Ty := (.raw 1)
abbrev ty88 : Ty := (.raw 1)
abbrev ty89 : Ty := (.raw 1)
abbrev ty90 : Ty := (.raw 1)
abbrev ty91 : Ty := (.raw 1)
abbrev ty92 : Ty := (.raw 1)
abbrev ty93 : Ty := (.raw 1)
abbrev ty94 : Ty := (.raw 1)
abbrev ty95 : Ty := (.agg (.pair ty34 (.pair ty34 ty34)))
abbrev ty96 : Ty := (.agg (.pair ty34 (.pair ty34 ty34)))
abbrev ty97 : Ty := (.raw 1)
abbrev ty98 : Ty := (.raw 1)
abbrev ty99 : Ty := (.agg (.pair ty36 ty36))
abbrev ty100 : Ty := (.agg (.pair ty36 ty36))
abbrev ty102 : Ty := (.raw 1)
abbrev ty103 : Ty := (.raw 1)
abbrev ty106 : Ty := (.raw 1)
abbrev ty107 : Ty := (.agg (.pair ty36 ty36))
abbrev ty108 : Ty := (.agg (.pair ty36 ty36))
abbrev ty109 : Ty := (.agg (.pair ty36 (.pair ty36 (.pair ty108 ty108))))
abbrev ty110 : Ty := (.agg (.pair ty36 (.pair ty36 (.pair ty108 ty108))))
abbrev ty111 : Ty := (.raw 1)
abbrev ty112 : Ty := (.raw 1)
abbrev ty113 : Ty := (.raw 1)
abbrev ty114 : Ty := (.agg (.pair ty45 (.pair ty3 ty4)))
abbrev ty115 : Ty := (.agg (.pair ty45 (.pair ty3 ty4)))
abbrev ty117 : Ty := (.raw 1)
abbrev ty118 : Ty := (.raw 1)
abbrev ty119 : Ty := (.raw 1)
abbrev ty120 : Ty := (.raw 1)
abbrev ty121 : Ty := (.raw 1)
abbrev ty122 : Ty := (.raw 0)
abbrev ty123 : Ty := (.raw 1)
abbrev ty124 : Ty := (.raw 1)
abbrev ty125 : Ty := (.raw 1)
abbrev ty126 : Ty := (.raw 1)
abbrev ty127 : Ty := (.raw 1)
abbrev ty129 : Ty := (.raw 1)
abbrev ty130 : Ty := (.raw 1)
abbrev ty131 : Ty := (.raw 1)
abbrev ty132 : Ty := (.raw 1)
abbrev ty136 : Ty := (.raw 1)
abbrev ty137 : Ty := (.raw 1)
abbrev ty138 : Ty := (.raw 1)
abbrev ty142 : Ty := (.raw 1)
abbrev ty143 : Ty := (.raw 1)
abbrev ty144 : Ty := (.raw 1)
abbrev ty145 : Ty := (.raw 1)
abbrev ty146 : Ty := (.raw 1)
abbrev ty147 : Ty := (.raw 1)
abbrev ty148 : Ty := (.agg (.pair ty45 (.pair ty3 ty4)))
abbrev ty149 : Ty := (.raw 1)
abbrev ty150 : Ty := (.raw 1)
abbrev ty151 : Ty := (.raw 1)
abbrev ty152 : Ty := (.raw 1)
abbrev ty153 : Ty := (.agg (.pair ty59 (.pair ty3 ty3)))
abbrev ty154 : Ty := (.agg (.pair ty59 (.pair ty3 ty3)))
abbrev ty155 : Ty := (.raw 1)
abbrev ty156 : Ty := (.raw 1)
abbrev ty157 : Ty := (.raw 1)
abbrev ty158 : Ty := (.raw 1)
abbrev ty159 : Ty := (.raw 1)
abbrev ty160 : Ty := (.raw 1)
abbrev ty161 : Ty := (.raw 1)
abbrev ty162 : Ty := (.raw 1)
abbrev ty163 : Ty := (.raw 1)
abbrev ty164 : Ty := (.int .u64)
abbrev ty165 : Ty := (.raw 1)
abbrev ty170 : Ty := (.raw 1)
abbrev ty171 : Ty := (.raw 1)
abbrev ty172 : Ty := (.raw 1)
abbrev ty178 : Ty := (.raw 1)
abbrev ty179 : Ty := (.int .u32)
abbrev ty180 : Ty := (.int .u8)
abbrev ty181 : Ty := (.int .u8)
abbrev ty182 : Ty := (.raw 1)
abbrev ty183 : Ty := (.raw 0)
abbrev ty184 : Ty := (.int .i32)
abbrev ty185 : Ty := (.int .i32)
abbrev ty188 : Ty := (.raw 1)
abbrev ty22 : Ty := (.slice 96 ty96)
abbrev ty25 : Ty := (.slice 77 ty77)
abbrev ty42 : Ty := (.slice 148 ty148)
abbrev ty43 : Ty := (.agg (.pair ty3 ty42))
abbrev ty44 : Ty := (.agg (.pair ty3 ty42))
abbrev ty47 : Ty := (.slice 115 ty115)
abbrev ty48 : Ty := (.agg (.pair ty3 ty47))
abbrev ty49 : Ty := (.agg (.pair ty3 ty47))
abbrev ty79 : Ty := (.agg (.pair ty3 (.pair ty9 (.pair ty9 (.pair ty44 ty45)))))
abbrev ty80 : Ty := (.agg (.pair ty3 (.pair ty9 (.pair ty9 (.pair ty44 ty45)))))
abbrev ty86 : Ty := (.agg (.pair ty3 (.pair ty9 (.pair ty9 (.pair ty49 ty45)))))
abbrev ty87 : Ty := (.agg (.pair ty3 (.pair ty9 (.pair ty9 (.pair ty49 ty45)))))
abbrev ty104 : Ty := (.slice 110 ty110)
abbrev ty166 : Ty := (.agg (.pair ty9 ty44))
abbrev ty167 : Ty := (.agg (.pair ty9 ty44))
abbrev ty168 : Ty := (.agg (.pair ty9 ty49))
abbrev ty169 : Ty := (.agg (.pair ty9 ty49))
abbrev ty133 : Ty := (.slice 167 ty167)
abbrev ty134 : Ty := (.agg (.pair ty9 (.pair ty3 ty133)))
abbrev ty135 : Ty := (.agg (.pair ty9 (.pair ty3 ty133)))
abbrev ty139 : Ty := (.slice 169 ty169)
abbrev ty140 : Ty := (.agg (.pair ty9 (.pair ty3 ty139)))
abbrev ty141 : Ty := (.agg (.pair ty9 (.pair ty3 ty139)))
abbrev ty78 : Ty := (.slice 135 ty135)
abbrev ty84 : Ty := (.slice 141 ty141)
def tys : Tys := [(1, ty1, 8), (2, ty2, 8), (3, ty3, 8), (4, ty4, 1), (5, ty5, 1), (6, ty6, 1), (7, ty7, 24), (8, ty8, 24), (9, ty9, 16), (10, ty10, 16), (11, ty11, 16), (12, ty12, 8), (15, ty15, 8), (16, ty16, 8), (17, ty17, 8), (20, ty20, 16), (21, ty21, 4), (23, ty23, 8), (24, ty24, 8), (26, ty26, 8), (27, ty27, 8), (28, ty28, 8), (30, ty30, 8), (31, ty31, 8), (32, ty32, 8), (33, ty33, 16), (34, ty34, 16), (35, ty35, 8), (36, ty36, 16), (37, ty37, 8), (38, ty38, 8), (40, ty40, 8), (41, ty41, 8), (45, ty45, 24), (46, ty46, 8), (51, ty51, 8), (52, ty52, 8), (53, ty53, 8), (54, ty54, 8), (55, ty55, 8), (56, ty56, 8), (57, ty57, 8), (58, ty58, 8), (59, ty59, 24), (60, ty60, 8), (62, ty62, 8), (63, ty63, 24), (64, ty64, 8), (66, ty66, 8), (67, ty67, 8), (68, ty68, 8), (69, ty69, 8), (70, ty70, 8), (71, ty71, 8), (72, ty72, 8), (74, ty74, 8), (75, ty75, 8), (76, ty76, 48), (77, ty77, 48), (81, ty81, 8), (82, ty82, 8), (83, ty83, 8), (85, ty85, 8), (88, ty88, 8), (89, ty89, 8), (90, ty90, 8), (91, ty91, 8), (92, ty92, 8), (93, ty93, 8), (94, ty94, 8), (95, ty95, 48), (96, ty96, 48), (97, ty97, 8), (98, ty98, 8), (99, ty99, 32), (100, ty100, 32), (102, ty102, 8), (103, ty103, 8), (106, ty106, 8), (107, ty107, 32), (108, ty108, 32), (109, ty109, 96), (110, ty110, 96), (111, ty111, 8), (112, ty112, 8), (113, ty113, 8), (114, ty114, 40), (115, ty115, 40), (117, ty117, 8), (118, ty118, 8), (119, ty119, 8), (120, ty120, 8), (121, ty121, 8), (122, ty122, 8), (123, ty123, 8), (124, ty124, 8), (125, ty125, 8), (126, ty126, 8), (127, ty127, 8), (129, ty129, 8), (130, ty130, 8), (131, ty131, 8), (132, ty132, 8), (136, ty136, 8), (137, ty137, 8), (138, ty138, 8), (142, ty142, 8), (143, ty143, 8), (144, ty144, 8), (145, ty145, 8), (146, ty146, 8), (147, ty147, 8), (148, ty148, 40), (149, ty149, 8), (150, ty150, 8), (151, ty151, 8), (152, ty152, 8), (153, ty153, 40), (154, ty154, 40), (155, ty155, 8), (156, ty156, 8), (157, ty157, 8), (158, ty158, 8), (159, ty159, 8), (160, ty160, 8), (161, ty161, 8), (162, ty162, 8), (163, ty163, 8), (164, ty164, 8), (165, ty165, 8), (170, ty170, 8), (171, ty171, 8), (172, ty172, 8), (178, ty178, 8), (179, ty179, 4), (180, ty180, 1), (181, ty181, 1), (182, ty182, 8), (183, ty183, 8), (184, ty184, 4), (185, ty185, 4), (188, ty188, 8), (22, ty22, 24), (25, ty25, 24), (42, ty42, 24), (43, ty43, 32), (44, ty44, 32), (47, ty47, 24), (48, ty48, 32), (49, ty49, 32), (79, ty79, 96), (80, ty80, 96), (86, ty86, 96), (87, ty87, 96), (104, ty104, 24), (166, ty166, 48), (167, ty167, 48), (168, ty168, 48), (169, ty169, 48), (133, ty133, 24), (134, ty134, 48), (135, ty135, 48), (139, ty139, 24), (140, ty140, 48), (141, ty141, 48), (78, ty78, 24), (84, ty84, 24)]
noncomputable abbrev C : Ctx := mkCtx tys
theorem mix : Try.prog.follows .mixedOrders = true := by kernel_rfl
theorem C_ok : CtxOk Try.prog C := ctx_ok (by kernel_rfl)
def tab0 : Tab := fun _ => none
theorem tab0_ok : TabOk Try.prog tab0 := fun _ _ h => by cases h
theorem tab_cons {tab : Tab} {f : FuncId} {F : Am.Fn} (h : TabOk Try.prog tab) (hF : FnOk Try.prog f F) : TabOk Try.prog (fun g => bif g == f then some F else tab g) := by
  intro g G hg
  dsimp only at hg
  cases hc : g == f with
  | true =>
    rw [hc] at hg
    simp only [cond_true, Option.some.injEq] at hg
    rw [beq_iff_eq] at hc
    subst hc hg
    exact hF
  | false =>
    rw [hc] at hg
    exact h g G hg
/-- loop.example/g03413/laws.szStopS -/
noncomputable def F13 : Am.Fn := mkFn C tab0 [0, 1, 2, 3] 12 (fun _ => none) [(ty22, .ro), (ty3, .ro)] [(ty3, 0)] [.tmp 4] (Try.f13.body.getD .skip)
theorem F13_ok : FnOk Try.prog 13 F13 := by
  unfold F13
  exact mkFn_ok (fn := Try.f13) mix C_ok tab0_ok Try.func13 (by kernel_rfl) (by kernel_rfl) (by kernel_rfl) (by kernel_rfl) (by decide)
noncomputable def tab13 : Tab := fun f => bif f == 13 then some F13 else tab0 f
theorem tab13_ok : TabOk Try.prog tab13 := tab_cons tab0_ok F13_ok
/-- loop.example/g03413/laws.toRatio -/
noncomputable def F23 : Am.Fn := mkFn C tab13 [0, 1, 2, 3, 4, 7] 11 (fun _ => none) [(ty34, .ro)] [(ty36, 0)] [.cell 2 36] (Try.f23.body.getD .skip)
theorem F23_ok : FnOk Try.prog 23 F23 := by
  unfold F23
  exact mkFn_ok (fn := Try.f23) mix C_ok tab13_ok Try.func23 (by kernel_rfl) (by kernel_rfl) (by kernel_rfl) (by kernel_rfl) (by decide)
noncomputable def tab23 : Tab := fun f => bif f == 23 then some F23 else tab13 f
theorem tab23_ok : TabOk Try.prog tab23 := tab_cons tab13_ok F23_ok
/-- loop.example/g03413/laws.toStop -/
noncomputable def F63 : Am.Fn := mkFn C tab23 [0, 1, 2, 3, 4, 8, 12] 17 (fun _ => none) [(ty96, .ro)] [(ty77, 0)] [.cell 2 77] (Try.f63.body.getD .skip)
theorem F63_ok : FnOk Try.prog 63 F63 := by
  unfold F63
  exact mkFn_ok (fn := Try.f63) mix C_ok tab23_ok Try.func63 (by kernel_rfl) (by kernel_rfl) (by kernel_rfl) (by kernel_rfl) (by decide)
noncomputable def tab63 : Tab := fun f => bif f == 63 then some F63 else tab23 f
theorem tab63_ok : TabOk Try.prog tab63 := tab_cons tab23_ok F63_ok
/-- loop.example/g03413/laws.toStopS -/
noncomputable def F15 : Am.Fn := mkFn C tab63 [0, 1, 3, 4, 14, 16, 18] 23 (fun k => bif k == 1000003 then some 25 else none) [(ty22, .ro)] [(ty25, 1)] [.tmp 2] (Try.f15.body.getD .skip)
theorem F15_ok : FnOk Try.prog 15 F15 := by
  unfold F15
  exact mkFn_ok (fn := Try.f15) mix C_ok tab63_ok Try.func15 (by kernel_rfl) (by kernel_rfl) (by kernel_rfl) (by kernel_rfl) (by decide)
noncomputable def tab15 : Tab := fun f => bif f == 15 then some F15 else tab63 f
theorem tab15_ok : TabOk Try.prog tab15 := tab_cons tab63_ok F15_ok
/-- loop.example/g03413/spec.l1In -/
noncomputable def F62 : Am.Fn := mkFn C tab15 [0, 1, 2, 3, 4, 5] 15 (fun _ => none) [(ty3, .ro), (ty3, .ro), (ty3, .ro)] [(ty4, 0)] [.tmp 6] (Try.f62.body.getD .skip)
theorem F62_ok : FnOk Try.prog 62 F62 := by
  unfold F62
  exact mkFn_ok (fn := Try.f62) mix C_ok tab15_ok Try.func62 (by kernel_rfl) (by kernel_rfl) (by kernel_rfl) (by kernel_rfl) (by decide)
noncomputable def tab62 : Tab := fun f => bif f == 62 then some F62 else tab15 f
theorem tab62_ok : TabOk Try.prog tab62 := tab_cons tab15_ok F62_ok
/-- loop.example/g03413/spec.IsNumber -/
noncomputable def F103 : Am.Fn := mkFn C tab62 [0, 1] 5 (fun _ => none) [(ty3, .ro)] [(ty4, 0)] [.tmp 2] (Try.f103.body.getD .skip)
theorem F103_ok : FnOk Try.prog 103 F103 := by
  unfold F103
  exact mkFn_ok (fn := Try.f103) mix C_ok tab62_ok Try.func103 (by kernel_rfl) (by kernel_rfl) (by kernel_rfl) (by kernel_rfl) (by decide)
noncomputable def tab103 : Tab := fun f => bif f == 103 then some F103 else tab62 f
theorem tab103_ok : TabOk Try.prog tab103 := tab_cons tab62_ok F103_ok
/-- loop.example/g03413/spec.l1Abs -/
noncomputable def F124 : Am.Fn := mkFn C tab103 [0, 1] 7 (fun _ => none) [(ty3, .ro)] [(ty3, 0)] [.tmp 2] (Try.f124.body.getD .skip)
theorem F124_ok : FnOk Try.prog 124 F124 := by
  unfold F124
  exact mkFn_ok (fn := Try.f124) mix C_ok tab103_ok Try.func124 (by kernel_rfl) (by kernel_rfl) (by kernel_rfl) (by kernel_rfl) (by decide)
noncomputable def tab124 : Tab := fun f => bif f == 124 then some F124 else tab103 f
theorem tab124_ok : TabOk Try.prog tab124 := tab_cons tab103_ok F124_ok
/-- loop.example/g03413/spec.GcdOf -/
noncomputable def F104 : Am.Fn := mkFn C tab124 [0, 1, 2, 3] 21 (fun k => bif k == 1000003 then some 3 else none) [(ty3, .ro), (ty3, .ro)] [(ty3, 0)] [.tmp 4] (Try.f104.body.getD .skip)
theorem F104_ok : FnOk Try.prog 104 F104 := by
  unfold F104
  exact mkFn_ok (fn := Try.f104) mix C_ok tab124_ok Try.func104 (by kernel_rfl) (by kernel_rfl) (by kernel_rfl) (by kernel_rfl) (by decide)
noncomputable def tab104 : Tab := fun f => bif f == 104 then some F104 else tab124 f
theorem tab104_ok : TabOk Try.prog tab104 := tab_cons tab124_ok F104_ok
/-- loop.example/g03413/spec.IsRatio -/
noncomputable def F60 : Am.Fn := mkFn C tab104 [0, 1, 3, 7, 12, 14] 19 (fun _ => none) [(ty36, .ro)] [(ty4, 0)] [.tmp 2] (Try.f60.body.getD .skip)
theorem F60_ok : FnOk Try.prog 60 F60 := by
  unfold F60
  exact mkFn_ok (fn := Try.f60) mix C_ok tab104_ok Try.func60 (by kernel_rfl) (by kernel_rfl) (by kernel_rfl) (by kernel_rfl) (by decide)
noncomputable def tab60 : Tab := fun f => bif f == 60 then some F60 else tab104 f
theorem tab60_ok : TabOk Try.prog tab60 := tab_cons tab104_ok F60_ok
/-- loop.example/g03413/spec.l1Less -/
noncomputable def F61 : Am.Fn := mkFn C tab60 [0, 1, 2, 3, 5, 7, 10, 12] 16 (fun _ => none) [(ty36, .ro), (ty36, .ro)] [(ty4, 0)] [.tmp 4] (Try.f61.body.getD .skip)
theorem F61_ok : FnOk Try.prog 61 F61 := by
  unfold F61
  exact mkFn_ok (fn := Try.f61) mix C_ok tab60_ok Try.func61 (by kernel_rfl) (by kernel_rfl) (by kernel_rfl) (by kernel_rfl) (by decide)
noncomputable def tab61 : Tab := fun f => bif f == 61 then some F61 else tab60 f
theorem tab61_ok : TabOk Try.prog tab61 := tab_cons tab60_ok F61_ok
/-- loop.example/g03413/spec.IsTrack -/
noncomputable def F14 : Am.Fn := mkFn C tab61 [0, 1, 3, 10, 12, 13, 18, 20, 21, 27, 29, 30, 39, 42, 43, 45, 47, 48] 57 (fun k => bif k == 1000002 then some 9 else none) [(ty25, .ro)] [(ty4, 0)] [.tmp 2] (Try.f14.body.getD .skip)
theorem F14_ok : FnOk Try.prog 14 F14 := by
  unfold F14
  exact mkFn_ok (fn := Try.f14) mix C_ok tab61_ok Try.func14 (by kernel_rfl) (by kernel_rfl) (by kernel_rfl) (by kernel_rfl) (by decide)
noncomputable def tab14 : Tab := fun f => bif f == 14 then some F14 else tab61 f
theorem tab14_ok : TabOk Try.prog tab14 := tab_cons tab61_ok F14_ok
/-- loop.example/g03413/impl.IsNumber -/
noncomputable def F105 : Am.Fn := mkFn C tab14 [0, 1] 9 (fun _ => none) [(ty3, .ro)] [(ty4, 0)] [.tmp 2] (Try.f105.body.getD .skip)
theorem F105_ok : FnOk Try.prog 105 F105 := by
  unfold F105
  exact mkFn_ok (fn := Try.f105) mix C_ok tab14_ok Try.func105 (by kernel_rfl) (by kernel_rfl) (by kernel_rfl) (by kernel_rfl) (by decide)
noncomputable def tab105 : Tab := fun f => bif f == 105 then some F105 else tab14 f
theorem tab105_ok : TabOk Try.prog tab105 := tab_cons tab14_ok F105_ok
/-- loop.example/g03413/impl.absolute -/
noncomputable def F71 : Am.Fn := mkFn C tab105 [0, 1] 8 (fun _ => none) [(ty3, .ro)] [(ty3, 0)] [.tmp 2] (Try.f71.body.getD .skip)
theorem F71_ok : FnOk Try.prog 71 F71 := by
  unfold F71
  exact mkFn_ok (fn := Try.f71) mix C_ok tab105_ok Try.func71 (by kernel_rfl) (by kernel_rfl) (by kernel_rfl) (by kernel_rfl) (by decide)
noncomputable def tab71 : Tab := fun f => bif f == 71 then some F71 else tab105 f
theorem tab71_ok : TabOk Try.prog tab71 := tab_cons tab105_ok F71_ok
/-- loop.example/g03413/impl.commonDivisor -/
noncomputable def F114 : Am.Fn := mkFn C tab71 [0, 1, 2, 3] 16 (fun k => bif k == 1000002 then some 3 else none) [(ty3, .ro), (ty3, .ro)] [(ty3, 0)] [.tmp 4] (Try.f114.body.getD .skip)
theorem F114_ok : FnOk Try.prog 114 F114 := by
  unfold F114
  exact mkFn_ok (fn := Try.f114) mix C_ok tab71_ok Try.func114 (by kernel_rfl) (by kernel_rfl) (by kernel_rfl) (by kernel_rfl) (by decide)
noncomputable def tab114 : Tab := fun f => bif f == 114 then some F114 else tab71 f
theorem tab114_ok : TabOk Try.prog tab114 := tab_cons tab71_ok F114_ok
/-- loop.example/g03413/impl.GcdOf -/
noncomputable def F106 : Am.Fn := mkFn C tab114 [0, 1, 2, 3] 16 (fun _ => none) [(ty3, .ro), (ty3, .ro)] [(ty3, 0)] [.tmp 4] (Try.f106.body.getD .skip)
theorem F106_ok : FnOk Try.prog 106 F106 := by
  unfold F106
  exact mkFn_ok (fn := Try.f106) mix C_ok tab114_ok Try.func106 (by kernel_rfl) (by kernel_rfl) (by kernel_rfl) (by kernel_rfl) (by decide)
noncomputable def tab106 : Tab := fun f => bif f == 106 then some F106 else tab114 f
theorem tab106_ok : TabOk Try.prog tab106 := tab_cons tab114_ok F106_ok
/-- loop.example/g03413/impl.IsRatio -/
noncomputable def F64 : Am.Fn := mkFn C tab106 [0, 1, 3, 7, 12, 17, 19] 24 (fun _ => none) [(ty36, .ro)] [(ty4, 0)] [.tmp 2] (Try.f64.body.getD .skip)
theorem F64_ok : FnOk Try.prog 64 F64 := by
  unfold F64
  exact mkFn_ok (fn := Try.f64) mix C_ok tab106_ok Try.func64 (by kernel_rfl) (by kernel_rfl) (by kernel_rfl) (by kernel_rfl) (by decide)
noncomputable def tab64 : Tab := fun f => bif f == 64 then some F64 else tab106 f
theorem tab64_ok : TabOk Try.prog tab64 := tab_cons tab106_ok F64_ok
/-- loop.example/g03413/impl.CompareRatios -/
noncomputable def F51 : Am.Fn := mkFn C tab64 [0, 1, 2, 3, 5, 6, 15, 17, 20, 22] 31 (fun _ => none) [(ty36, .ro), (ty36, .ro)] [(ty3, 0)] [.tmp 4] (Try.f51.body.getD .skip)
theorem F51_ok : FnOk Try.prog 51 F51 := by
  unfold F51
  exact mkFn_ok (fn := Try.f51) mix C_ok tab64_ok Try.func51 (by kernel_rfl) (by kernel_rfl) (by kernel_rfl) (by kernel_rfl) (by decide)
noncomputable def tab51 : Tab := fun f => bif f == 51 then some F51 else tab64 f
theorem tab51_ok : TabOk Try.prog tab51 := tab_cons tab64_ok F51_ok
/-- loop.example/g03413/impl.IsTrack -/
noncomputable def F16 : Am.Fn := mkFn C tab51 [0, 1, 3, 4, 13, 18, 20, 25, 31, 39, 42, 43, 45] 51 (fun k => bif k == 1000004 then some 57345 else none) [(ty25, .ro)] [(ty4, 0)] [.tmp 2] (Try.f16.body.getD .skip)
theorem F16_ok : FnOk Try.prog 16 F16 := by
  unfold F16
  exact mkFn_ok (fn := Try.f16) mix C_ok tab51_ok Try.func16 (by kernel_rfl) (by kernel_rfl) (by kernel_rfl) (by kernel_rfl) (by decide)
noncomputable def tab16 : Tab := fun f => bif f == 16 then some F16 else tab51 f
theorem tab16_ok : TabOk Try.prog tab16 := tab_cons tab51_ok F16_ok
/-- loop.example/g03413/laws.eqRatio -/
noncomputable def F27 : Am.Fn := mkFn C tab16 [0, 1, 2, 3, 5, 7, 10, 12] 15 (fun _ => none) [(ty36, .ro), (ty36, .ro)] [(ty4, 0)] [.tmp 4] (Try.f27.body.getD .skip)
theorem F27_ok : FnOk Try.prog 27 F27 := by
  unfold F27
  exact mkFn_ok (fn := Try.f27) mix C_ok tab16_ok Try.func27 (by kernel_rfl) (by kernel_rfl) (by kernel_rfl) (by kernel_rfl) (by decide)
noncomputable def tab27 : Tab := fun f => bif f == 27 then some F27 else tab16 f
theorem tab27_ok : TabOk Try.prog tab27 := tab_cons tab16_ok F27_ok
/-- loop.example/g03413/laws.eqStop -/
noncomputable def F65 : Am.Fn := mkFn C tab27 [0, 1, 2, 3, 5, 7, 11, 13, 17, 19] 23 (fun _ => none) [(ty77, .ro), (ty77, .ro)] [(ty4, 0)] [.tmp 4] (Try.f65.body.getD .skip)
theorem F65_ok : FnOk Try.prog 65 F65 := by
  unfold F65
  exact mkFn_ok (fn := Try.f65) mix C_ok tab27_ok Try.func65 (by kernel_rfl) (by kernel_rfl) (by kernel_rfl) (by kernel_rfl) (by decide)
noncomputable def tab65 : Tab := fun f => bif f == 65 then some F65 else tab27 f
theorem tab65_ok : TabOk Try.prog tab65 := tab_cons tab27_ok F65_ok
/-- loop.example/g03413/laws.eqStopS -/
noncomputable def F17 : Am.Fn := mkFn C tab65 [0, 1, 2, 3, 5, 17, 19, 21, 23] 27 (fun k => bif k == 1000004 then some 35 else none) [(ty25, .ro), (ty25, .ro)] [(ty4, 0)] [.tmp 4] (Try.f17.body.getD .skip)
theorem F17_ok : FnOk Try.prog 17 F17 := by
  unfold F17
  exact mkFn_ok (fn := Try.f17) mix C_ok tab65_ok Try.func17 (by kernel_rfl) (by kernel_rfl) (by kernel_rfl) (by kernel_rfl) (by decide)
noncomputable def tab17 : Tab := fun f => bif f == 17 then some F17 else tab65 f
theorem tab17_ok : TabOk Try.prog tab17 := tab_cons tab65_ok F17_ok
/-- loop.example/g03413/laws.FnExactIsTrack -/
noncomputable def F3 : Am.Fn := mkFn C tab17 [0, 1, 3, 4, 5, 6] 27 (fun _ => none) [(ty22, .ro)] [(ty4, 0)] [.tmp 2] (Try.f3.body.getD .skip)
theorem F3_ok : FnOk Try.prog 3 F3 := by
  unfold F3
  exact mkFn_ok (fn := Try.f3) mix C_ok tab17_ok Try.func3 (by kernel_rfl) (by kernel_rfl) (by kernel_rfl) (by kernel_rfl) (by decide)
noncomputable def tab3 : Tab := fun f => bif f == 3 then some F3 else tab17 f
theorem tab3_ok : TabOk Try.prog tab3 := tab_cons tab17_ok F3_ok
end Go.Proofs.Ytdfcejijcnhcaaa.It
