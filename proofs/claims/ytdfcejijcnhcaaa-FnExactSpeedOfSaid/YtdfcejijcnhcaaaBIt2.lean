/- A part of the proof: It2. No conditions. -/
import Derived.Test.YtdfcejijcnhcaaaBAm35
import Derived.Test.YtdfcejijcnhcaaaChecked
import Derived.KernelRfl
set_option linter.unusedVariables false
namespace Go.Proofs.Ytdfcejijcnhcaaa.B.It
open Am
abbrev ty1 : Ty := (.raw 1)
abbrev ty2 : Ty := (.int .i64)
abbrev ty3 : Ty := (.int .i64)
abbrev ty4 : Ty := .bool
abbrev ty5 : Ty := (.int .u8)
abbrev ty6 : Ty := (.int .u8)
abbrev ty7 : Ty := (.agg (.pair ty2 (.pair ty3 (.pair ty4 ty6))))
abbrev ty8 : Ty := (.agg (.pair ty2 (.pair ty3 (.pair ty4 ty6))))
abbrev ty9 : Ty := .str
abbrev ty10 : Ty := .str
abbrev ty11 : Ty := .str
abbrev ty12 : Ty := (.int .u64)
abbrev ty15 : Ty := (.raw 0)
abbrev ty16 : Ty := (.raw 0)
abbrev ty17 : Ty := (.raw 0)
abbrev ty20 : Ty := (.raw 2)
abbrev ty21 : Ty := (.int .i32)
abbrev ty23 : Ty := (.raw 1)
abbrev ty24 : Ty := (.raw 1)
abbrev ty26 : Ty := (.raw 1)
abbrev ty27 : Ty := (.raw 1)
abbrev ty28 : Ty := (.raw 1)
abbrev ty30 : Ty := (.raw 1)
abbrev ty31 : Ty := (.raw 1)
abbrev ty32 : Ty := (.raw 1)
abbrev ty33 : Ty := (.agg (.pair ty3 ty3))
abbrev ty34 : Ty := (.agg (.pair ty3 ty3))
abbrev ty35 : Ty := (.raw 1)
abbrev ty36 : Ty := (.agg (.pair ty3 ty3))
abbrev ty37 : Ty := (.raw 1)
abbrev ty38 : Ty := (.raw 1)
abbrev ty40 : Ty := (.raw 1)
abbrev ty41 : Ty := (.raw 1)
abbrev ty45 : Ty := (.slice 3 ty3)
abbrev ty46 : Ty := (.raw 1)
abbrev ty51 : Ty := (.raw 1)
abbrev ty52 : Ty := (.raw 1)
abbrev ty53 : Ty := (.raw 1)
abbrev ty54 : Ty := (.raw 1)
abbrev ty55 : Ty := (.raw 1)
abbrev ty56 : Ty := (.raw 1)
abbrev ty57 : Ty := (.raw 1)
abbrev ty58 : Ty := (.raw 1)
abbrev ty59 : Ty := (.slice 5 ty5)
abbrev ty60 : Ty := (.raw 1)
abbrev ty62 : Ty := (.raw 1)
abbrev ty63 : Ty := (.slice 36 ty36)
abbrev ty64 : Ty := (.raw 1)
abbrev ty66 : Ty := (.raw 1)
abbrev ty67 : Ty := (.raw 1)
abbrev ty68 : Ty := (.raw 1)
abbrev ty69 : Ty := (.raw 1)
abbrev ty70 : Ty := (.raw 1)
abbrev ty71 : Ty := (.raw 1)
abbrev ty72 : Ty := (.raw 1)
abbrev ty74 : Ty := (.raw 1)
abbrev ty75 : Ty := (.raw 1)
abbrev ty76 : Ty := (.agg (.pair ty36 (.pair ty36 ty36)))
abbrev ty77 : Ty := (.agg (.pair ty36 (.pair ty36 ty36)))
abbrev ty81 : Ty := (.raw 1)
abbrev ty82 : Ty := (.raw 1)
abbrev ty83 : Ty := (.raw 1)
abbrev ty85 : Ty := (.raw 1)
abbrev ty88 : Ty := (.raw 1)
abbrev ty89 : Ty := (.raw 1)
abbrev ty90 : Ty := (.raw 1)
abbrev ty91 : Ty := (.raw 1)
abbrev ty92 : Ty := (.raw 1)
abbrev ty93 : Ty := (.raw 1)
abbrev ty94 : Ty := (.raw 1)
abbrev ty95 : Ty := (.agg (.pair ty34 (.pair ty34 ty34)))
abbrev ty96 : Ty := (.agg (.pair ty34 (.pair ty34 ty34)))
abbrev ty97 : Ty := (.raw 1)
abbrev ty98 : Ty := (.raw 1)
abbrev ty99 : Ty := (.agg (.pair ty36 ty36))
abbrev ty100 : Ty := (.agg (.pair ty36 ty36))
abbrev ty102 : Ty := (.raw 1)
abbrev ty103 : Ty := (.raw 1)
abbrev ty106 : Ty := (.raw 1)
abbrev ty107 : Ty := (.agg (.pair ty36 ty36))
abbrev ty108 : Ty := (.agg (.pair ty36 ty36))
abbrev ty109 : Ty := (.agg (.pair ty36 (.pair ty36 (.pair ty108 ty108))))
abbrev ty110 : Ty := (.agg (.pair ty36 (.pair ty36 (.pair ty108 ty108))))
abbrev ty111 : Ty := (.raw 1)
abbrev ty112 : Ty := (.raw 1)
abbrev ty113 : Ty := (.raw 1)
abbrev ty114 : Ty := (.agg (.pair ty45 (.pair ty3 ty4)))
abbrev ty115 : Ty := (.agg (.pair ty45 (.pair ty3 ty4)))
abbrev ty117 : Ty := (.raw 1)
abbrev ty118 : Ty := (.raw 1)
abbrev ty119 : Ty := (.raw 1)
abbrev ty120 : Ty := (.raw 1)
abbrev ty121 : Ty := (.raw 1)
abbrev ty122 : Ty := (.raw 0)
abbrev ty123 : Ty := (.raw 1)
abbrev ty124 : Ty := (.raw 1)
abbrev ty125 : Ty := (.raw 1)
abbrev ty126 : Ty := (.raw 1)
abbrev ty127 : Ty := (.raw 1)
abbrev ty129 : Ty := (.raw 1)
abbrev ty130 : Ty := (.raw 1)
abbrev ty131 : Ty := (.raw 1)
abbrev ty132 : Ty := (.raw 1)
abbrev ty136 : Ty := (.raw 1)
abbrev ty137 : Ty := (.raw 1)
abbrev ty138 : Ty := (.raw 1)
abbrev ty142 : Ty := (.raw 1)
abbrev ty143 : Ty := (.raw 1)
abbrev ty144 : Ty := (.raw 1)
abbrev ty145 : Ty := (.raw 1)
abbrev ty146 : Ty := (.raw 1)
abbrev ty147 : Ty := (.raw 1)
abbrev ty148 : Ty := (.agg (.pair ty45 (.pair ty3 ty4)))
abbrev ty149 : Ty := (.raw 1)
abbrev ty150 : Ty := (.raw 1)
abbrev ty151 : Ty := (.raw 1)
abbrev ty152 : Ty := (.raw 1)
abbrev ty153 : Ty := (.agg (.pair ty59 (.pair ty3 ty3)))
abbrev ty154 : Ty := (.agg (.pair ty59 (.pair ty3 ty3)))
abbrev ty155 : Ty := (.raw 1)
abbrev ty156 : Ty := (.raw 1)
abbrev ty157 : Ty := (.raw 1)
abbrev ty158 : Ty := (.raw 1)
abbrev ty159 : Ty := (.raw 1)
abbrev ty160 : Ty := (.raw 1)
abbrev ty161 : Ty := (.raw 1)
abbrev ty162 : Ty := (.raw 1)
abbrev ty163 : Ty := (.raw 1)
abbrev ty164 : Ty := (.int .u64)
abbrev ty165 : Ty := (.raw 1)
abbrev ty170 : Ty := (.raw 1)
abbrev ty171 : Ty := (.raw 1)
abbrev ty172 : Ty := (.raw 1)
abbrev ty178 : Ty := (.raw 1)
abbrev ty179 : Ty := (.int .u32)
abbrev ty180 : Ty := (.int .u8)
abbrev ty181 : Ty := (.int .u8)
abbrev ty182 : Ty := (.raw 1)
abbrev ty183 : Ty := (.raw 0)
abbrev ty184 : Ty := (.int .i32)
abbrev ty185 : Ty := (.int .i32)
abbrev ty188 : Ty := (.raw 1)
abbrev ty22 : Ty := (.slice 96 ty96)
abbrev ty25 : Ty := (.slice 77 ty77)
abbrev ty42 : Ty := (.slice 148 ty148)
abbrev ty43 : Ty := (.agg (.pair ty3 ty42))
abbrev ty44 : Ty := (.agg (.pair ty3 ty42))
abbrev ty47 : Ty := (.slice 115 ty115)
abbrev ty48 : Ty := (.agg (.pair ty3 ty47))
abbrev ty49 : Ty := (.agg (.pair ty3 ty47))
abbrev ty79 : Ty := (.agg (.pair ty3 (.pair ty9 (.pair ty9 (.pair ty44 ty45)))))
abbrev ty80 : Ty := (.agg (.pair ty3 (.pair ty9 (.pair ty9 (.pair ty44 ty45)))))
abbrev ty86 : Ty := (.agg (.pair ty3 (.pair ty9 (.pair ty9 (.pair ty49 ty45)))))
abbrev ty87 : Ty := (.agg (.pair ty3 (.pair ty9 (.pair ty9 (.pair ty49 ty45)))))
abbrev ty104 : Ty := (.slice 110 ty110)
abbrev ty166 : Ty := (.agg (.pair ty9 ty44))
abbrev ty167 : Ty := (.agg (.pair ty9 ty44))
abbrev ty168 : Ty := (.agg (.pair ty9 ty49))
abbrev ty169 : Ty := (.agg (.pair ty9 ty49))
abbrev ty133 : Ty := (.slice 167 ty167)
abbrev ty134 : Ty := (.agg (.pair ty9 (.pair ty3 ty133)))
abbrev ty135 : Ty := (.agg (.pair ty9 (.pair ty3 ty133)))
abbrev ty139 : Ty := (.slice 169 ty169)
abbrev ty140 : Ty := (.agg (.pair ty9 (.pair ty3 ty139)))
abbrev ty141 : Ty := (.agg (.pair ty9 (.pair ty3 ty139)))
abbrev ty78 : Ty := (.slice 135 ty135)
abbrev ty84 : Ty := (.slice 141 ty141)
def tys : Tys := [(1, ty1, 8), (2, ty2, 8), (3, ty3, 8), (4, ty4, 1), (5, ty5, 1), (6, ty6, 1), (7, ty7, 24), (8, ty8, 24), (9, ty9, 16), (10, ty10, 16), (11, ty11, 16), (12, ty12, 8), (15, ty15, 8), (16, ty16, 8), (17, ty17, 8), (20, ty20, 16), (21, ty21, 4), (23, ty23, 8), (24, ty24, 8), (26, ty26, 8), (27, ty27, 8), (28, ty28, 8), (30, ty30, 8), (31, ty31, 8), (32, ty32, 8), (33, ty33, 16), (34, ty34, 16), (35, ty35, 8), (36, ty36, 16), (37, ty37, 8), (38, ty38, 8), (40, ty40, 8), (41, ty41, 8), (45, ty45, 24), (46, ty46, 8), (51, ty51, 8), (52, ty52, 8), (53, ty53, 8), (54, ty54, 8), (55, ty55, 8), (56, ty56, 8), (57, ty57, 8), (58, ty58, 8), (59, ty59, 24), (60, ty60, 8), (62, ty62, 8), (63, ty63, 24), (64, ty64, 8), (66, ty66, 8), (67, ty67, 8), (68, ty68, 8), (69, ty69, 8), (70, ty70, 8), (71, ty71, 8), (72, ty72, 8), (74, ty74, 8), (75, ty75, 8), (76, ty76, 48), (77, ty77, 48), (81, ty81, 8), (82, ty82, 8), (83, ty83, 8), (85, ty85, 8), (88, ty88, 8), (89, ty89, 8), (90, ty90, 8), (91, ty91, 8), (92, ty92, 8), (93, ty93, 8), (94, ty94, 8), (95, ty95, 48), (96, ty96, 48), (97, ty97, 8), (98, ty98, 8), (99, ty99, 32), (100, ty100, 32), (102, ty102, 8), (103, ty103, 8), (106, ty106, 8), (107, ty107, 32), (108, ty108, 32), (109, ty109, 96), (110, ty110, 96), (111, ty111, 8), (112, ty112, 8), (113, ty113, 8), (114, ty114, 40), (115, ty115, 40), (117, ty117, 8), (118, ty118, 8), (119, ty119, 8), (120, ty120, 8), (121, ty121, 8), (122, ty122, 8), (123, ty123, 8), (124, ty124, 8), (125, ty125, 8), (126, ty126, 8), (127, ty127, 8), (129, ty129, 8), (130, ty130, 8), (131, ty131, 8), (132, ty132, 8), (136, ty136, 8), (137, ty137, 8), (138, ty138, 8), (142, ty142, 8), (143, ty143, 8), (144, ty144, 8), (145, ty145, 8), (146, ty146, 8), (147, ty147, 8), (148, ty148, 40), (149, ty149, 8), (150, ty150, 8), (151, ty151, 8), (152, ty152, 8), (153, ty153, 40), (154, ty154, 40), (155, ty155, 8), (156, ty156, 8), (157, ty157, 8), (158, ty158, 8), (159, ty159, 8), (160, ty160, 8), (161, ty161, 8), (162, ty162, 8), (163, ty163, 8), (164, ty164, 8), (165, ty165, 8), (170, ty170, 8), (171, ty171, 8), (172, ty172, 8), (178, ty178, 8), (179, ty179, 4), (180, ty180, 1), (181, ty181, 1), (182, ty182, 8), (183, ty183, 8), (184, ty184, 4), (185, ty185, 4), (188, ty188, 8), (22, ty22, 24), (25, ty25, 24), (42, ty42, 24), (43, ty43, 32), (44, ty44, 32), (47, ty47, 24), (48, ty48, 32), (49, ty49, 32), (79, ty79, 96), (80, ty80, 96), (86, ty86, 96), (87, ty87, 96), (104, ty104, 24), (166, ty166, 48), (167, ty167, 48), (168, ty168, 48), (169, ty169, 48), (133, ty133, 24), (134, ty134, 48), (135, ty135, 48), (139, ty139, 24), (140, ty140, 48), (141, ty141, 48), (78, ty78, 24), (84, ty84, 24)]
noncomputable abbrev C : Ctx := mkCtx tys
theorem mix : Try.prog.follows .mixedOrders = true := by kernel_rfl
theorem C_ok : CtxOk Try.prog C := ctx_ok (by kernel_rfl)
def tab0 : Tab := fun _ => none
theorem tab0_ok : TabOk Try.prog tab0 := fun _ _ h => by cases h
theorem tab_cons {tab : Tab} {f : FuncId} {F : Am.Fn} (h : TabOk Try.prog tab) (hF : FnOk Try.prog f F) : TabOk Try.prog (fun g => bif g == f then some F else tab g) := by
  intro g G hg
  dsimp only at hg
  cases hc : g == f with
  | true =>
    rw [hc] at hg
    simp only [cond_true, Option.some.injEq] at hg
    rw [beq_iff_eq] at hc
    subst hc hg
    exact hF
  | false =>
    rw [hc] at hg
    exact h g G hg
/-- loop.example/g03413/laws.szStopS -/
noncomputable def F13 : Am.Fn := mkFn C tab0 [0, 1, 2, 3] 12 (fun _ => none) (fun _ _ => none) [(ty22, .ro), (ty3, .ro)] [(ty3, 0)] [.tmp 4] (Try.f13.body.getD .skip)
theorem F13_ok : FnOk Try.prog 13 F13 := by
  unfold F13
  exact mkFn_ok (fn := Try.f13) mix C_ok tab0_ok Try.func13 (by kernel_rfl) (by kernel_rfl) (by kernel_rfl) (by kernel_rfl) (by decide)
noncomputable def tab13 : Tab := fun f => bif f == 13 then some F13 else tab0 f
theorem tab13_ok : TabOk Try.prog tab13 := tab_cons tab0_ok F13_ok
/-- loop.example/g03413/laws.toRatio -/
noncomputable def F23 : Am.Fn := mkFn C tab13 [0, 1, 2, 3, 4, 7] 11 (fun _ => none) (fun _ _ => none) [(ty34, .ro)] [(ty36, 0)] [.cell 2 36] (Try.f23.body.getD .skip)
theorem F23_ok : FnOk Try.prog 23 F23 := by
  unfold F23
  exact mkFn_ok (fn := Try.f23) mix C_ok tab13_ok Try.func23 (by kernel_rfl) (by kernel_rfl) (by kernel_rfl) (by kernel_rfl) (by decide)
noncomputable def tab23 : Tab := fun f => bif f == 23 then some F23 else tab13 f
theorem tab23_ok : TabOk Try.prog tab23 := tab_cons tab13_ok F23_ok
/-- loop.example/g03413/laws.toStop -/
noncomputable def F63 : Am.Fn := mkFn C tab23 [0, 1, 2, 3, 4, 8, 12] 17 (fun _ => none) (fun _ _ => none) [(ty96, .ro)] [(ty77, 0)] [.cell 2 77] (Try.f63.body.getD .skip)
theorem F63_ok : FnOk Try.prog 63 F63 := by
  unfold F63
  exact mkFn_ok (fn := Try.f63) mix C_ok tab23_ok Try.func63 (by kernel_rfl) (by kernel_rfl) (by kernel_rfl) (by kernel_rfl) (by decide)
noncomputable def tab63 : Tab := fun f => bif f == 63 then some F63 else tab23 f
theorem tab63_ok : TabOk Try.prog tab63 := tab_cons tab23_ok F63_ok
/-- loop.example/g03413/laws.toStopS -/
noncomputable def F15 : Am.Fn := mkFn C tab63 [0, 1, 3, 4, 14, 16, 18] 23 (fun k => bif k == 1000003 then some 25 else none) (fun _ _ => none) [(ty22, .ro)] [(ty25, 1)] [.tmp 2] (Try.f15.body.getD .skip)
theorem F15_ok : FnOk Try.prog 15 F15 := by
  unfold F15
  exact mkFn_ok (fn := Try.f15) mix C_ok tab63_ok Try.func15 (by kernel_rfl) (by kernel_rfl) (by kernel_rfl) (by kernel_rfl) (by decide)
noncomputable def tab15 : Tab := fun f => bif f == 15 then some F15 else tab63 f
theorem tab15_ok : TabOk Try.prog tab15 := tab_cons tab63_ok F15_ok
/-- loop.example/g03413/spec.l1In -/
noncomputable def F62 : Am.Fn := mkFn C tab15 [0, 1, 2, 3, 4, 5] 15 (fun _ => none) (fun _ _ => none) [(ty3, .ro), (ty3, .ro), (ty3, .ro)] [(ty4, 0)] [.tmp 6] (Try.f62.body.getD .skip)
theorem F62_ok : FnOk Try.prog 62 F62 := by
  unfold F62
  exact mkFn_ok (fn := Try.f62) mix C_ok tab15_ok Try.func62 (by kernel_rfl) (by kernel_rfl) (by kernel_rfl) (by kernel_rfl) (by decide)
noncomputable def tab62 : Tab := fun f => bif f == 62 then some F62 else tab15 f
theorem tab62_ok : TabOk Try.prog tab62 := tab_cons tab15_ok F62_ok
/-- loop.example/g03413/spec.IsNumber -/
noncomputable def F103 : Am.Fn := mkFn C tab62 [0, 1] 5 (fun _ => none) (fun _ _ => none) [(ty3, .ro)] [(ty4, 0)] [.tmp 2] (Try.f103.body.getD .skip)
theorem F103_ok : FnOk Try.prog 103 F103 := by
  unfold F103
  exact mkFn_ok (fn := Try.f103) mix C_ok tab62_ok Try.func103 (by kernel_rfl) (by kernel_rfl) (by kernel_rfl) (by kernel_rfl) (by decide)
noncomputable def tab103 : Tab := fun f => bif f == 103 then some F103 else tab62 f
theorem tab103_ok : TabOk Try.prog tab103 := tab_cons tab62_ok F103_ok
/-- loop.example/g03413/spec.l1Abs -/
noncomputable def F124 : Am.Fn := mkFn C tab103 [0, 1] 7 (fun _ => none) (fun _ _ => none) [(ty3, .ro)] [(ty3, 0)] [.tmp 2] (Try.f124.body.getD .skip)
theorem F124_ok : FnOk Try.prog 124 F124 := by
  unfold F124
  exact mkFn_ok (fn := Try.f124) mix C_ok tab103_ok Try.func124 (by kernel_rfl) (by kernel_rfl) (by kernel_rfl) (by kernel_rfl) (by decide)
noncomputable def tab124 : Tab := fun f => bif f == 124 then some F124 else tab103 f
theorem tab124_ok : TabOk Try.prog tab124 := tab_cons tab103_ok F124_ok
/-- loop.example/g03413/spec.GcdOf -/
noncomputable def F104 : Am.Fn := mkFn C tab124 [0, 1, 2, 3] 21 (fun k => bif k == 1000003 then some 3 else none) (fun _ _ => none) [(ty3, .ro), (ty3, .ro)] [(ty3, 0)] [.tmp 4] (Try.f104.body.getD .skip)
theorem F104_ok : FnOk Try.prog 104 F104 := by
  unfold F104
  exact mkFn_ok (fn := Try.f104) mix C_ok tab124_ok Try.func104 (by kernel_rfl) (by kernel_rfl) (by kernel_rfl) (by kernel_rfl) (by decide)
noncomputable def tab104 : Tab := fun f => bif f == 104 then some F104 else tab124 f
theorem tab104_ok : TabOk Try.prog tab104 := tab_cons tab124_ok F104_ok
/-- loop.example/g03413/spec.IsRatio -/
noncomputable def F60 : Am.Fn := mkFn C tab104 [0, 1, 3, 7, 12, 14] 19 (fun _ => none) (fun _ _ => none) [(ty36, .ro)] [(ty4, 0)] [.tmp 2] (Try.f60.body.getD .skip)
theorem F60_ok : FnOk Try.prog 60 F60 := by
  unfold F60
  exact mkFn_ok (fn := Try.f60) mix C_ok tab104_ok Try.func60 (by kernel_rfl) (by kernel_rfl) (by kernel_rfl) (by kernel_rfl) (by decide)
noncomputable def tab60 : Tab := fun f => bif f == 60 then some F60 else tab104 f
theorem tab60_ok : TabOk Try.prog tab60 := tab_cons tab104_ok F60_ok
/-- loop.example/g03413/spec.l1Less -/
noncomputable def F61 : Am.Fn := mkFn C tab60 [0, 1, 2, 3, 5, 7, 10, 12] 16 (fun _ => none) (fun _ _ => none) [(ty36, .ro), (ty36, .ro)] [(ty4, 0)] [.tmp 4] (Try.f61.body.getD .skip)
theorem F61_ok : FnOk Try.prog 61 F61 := by
  unfold F61
  exact mkFn_ok (fn := Try.f61) mix C_ok tab60_ok Try.func61 (by kernel_rfl) (by kernel_rfl) (by kernel_rfl) (by kernel_rfl) (by decide)
noncomputable def tab61 : Tab := fun f => bif f == 61 then some F61 else tab60 f
theorem tab61_ok : TabOk Try.prog tab61 := tab_cons tab60_ok F61_ok
/-- loop.example/g03413/spec.IsTrack -/
noncomputable def F14 : Am.Fn := mkFn C tab61 [0, 1, 3, 10, 12, 13, 18, 20, 21, 27, 29, 30, 39, 42, 43, 45, 47, 48] 57 (fun k => bif k == 1000002 then some 9 else none) (fun _ _ => none) [(ty25, .ro)] [(ty4, 0)] [.tmp 2] (Try.f14.body.getD .skip)
theorem F14_ok : FnOk Try.prog 14 F14 := by
  unfold F14
  exact mkFn_ok (fn := Try.f14) mix C_ok tab61_ok Try.func14 (by kernel_rfl) (by kernel_rfl) (by kernel_rfl) (by kernel_rfl) (by decide)
noncomputable def tab14 : Tab := fun f => bif f == 14 then some F14 else tab61 f
theorem tab14_ok : TabOk Try.prog tab14 := tab_cons tab61_ok F14_ok
/-- loop.example/g03413/impl.IsNumber -/
noncomputable def F105 : Am.Fn := mkFn C tab14 [0, 1] 9 (fun _ => none) (fun _ _ => none) [(ty3, .ro)] [(ty4, 0)] [.tmp 2] (Try.f105.body.getD .skip)
theorem F105_ok : FnOk Try.prog 105 F105 := by
  unfold F105
  exact mkFn_ok (fn := Try.f105) mix C_ok tab14_ok Try.func105 (by kernel_rfl) (by kernel_rfl) (by kernel_rfl) (by kernel_rfl) (by decide)
noncomputable def tab105 : Tab := fun f => bif f == 105 then some F105 else tab14 f
theorem tab105_ok : TabOk Try.prog tab105 := tab_cons tab14_ok F105_ok
/-- loop.example/g03413/impl.absolute -/
noncomputable def F71 : Am.Fn := mkFn C tab105 [0, 1] 8 (fun _ => none) (fun _ _ => none) [(ty3, .ro)] [(ty3, 0)] [.tmp 2] (Try.f71.body.getD .skip)
theorem F71_ok : FnOk Try.prog 71 F71 := by
  unfold F71
  exact mkFn_ok (fn := Try.f71) mix C_ok tab105_ok Try.func71 (by kernel_rfl) (by kernel_rfl) (by kernel_rfl) (by kernel_rfl) (by decide)
noncomputable def tab71 : Tab := fun f => bif f == 71 then some F71 else tab105 f
theorem tab71_ok : TabOk Try.prog tab71 := tab_cons tab105_ok F71_ok
/-- loop.example/g03413/impl.commonDivisor -/
noncomputable def F114 : Am.Fn := mkFn C tab71 [0, 1, 2, 3] 16 (fun k => bif k == 1000002 then some 3 else none) (fun _ _ => none) [(ty3, .ro), (ty3, .ro)] [(ty3, 0)] [.tmp 4] (Try.f114.body.getD .skip)
theorem F114_ok : FnOk Try.prog 114 F114 := by
  unfold F114
  exact mkFn_ok (fn := Try.f114) mix C_ok tab71_ok Try.func114 (by kernel_rfl) (by kernel_rfl) (by kernel_rfl) (by kernel_rfl) (by decide)
noncomputable def tab114 : Tab := fun f => bif f == 114 then some F114 else tab71 f
theorem tab114_ok : TabOk Try.prog tab114 := tab_cons tab71_ok F114_ok
/-- loop.example/g03413/impl.GcdOf -/
noncomputable def F106 : Am.Fn := mkFn C tab114 [0, 1, 2, 3] 16 (fun _ => none) (fun _ _ => none) [(ty3, .ro), (ty3, .ro)] [(ty3, 0)] [.tmp 4] (Try.f106.body.getD .skip)
theorem F106_ok : FnOk Try.prog 106 F106 := by
  unfold F106
  exact mkFn_ok (fn := Try.f106) mix C_ok tab114_ok Try.func106 (by kernel_rfl) (by kernel_rfl) (by kernel_rfl) (by kernel_rfl) (by decide)
noncomputable def tab106 : Tab := fun f => bif f == 106 then some F106 else tab114 f
theorem tab106_ok : TabOk Try.prog tab106 := tab_cons tab114_ok F106_ok
/-- loop.example/g03413/impl.IsRatio -/
noncomputable def F64 : Am.Fn := mkFn C tab106 [0, 1, 3, 7, 12, 17, 19] 24 (fun _ => none) (fun _ _ => none) [(ty36, .ro)] [(ty4, 0)] [.tmp 2] (Try.f64.body.getD .skip)
theorem F64_ok : FnOk Try.prog 64 F64 := by
  unfold F64
  exact mkFn_ok (fn := Try.f64) mix C_ok tab106_ok Try.func64 (by kernel_rfl) (by kernel_rfl) (by kernel_rfl) (by kernel_rfl) (by decide)
noncomputable def tab64 : Tab := fun f => bif f == 64 then some F64 else tab106 f
theorem tab64_ok : TabOk Try.prog tab64 := tab_cons tab106_ok F64_ok
/-- loop.example/g03413/impl.CompareRatios -/
noncomputable def F51 : Am.Fn := mkFn C tab64 [0, 1, 2, 3, 5, 6, 15, 17, 20, 22] 31 (fun _ => none) (fun _ _ => none) [(ty36, .ro), (ty36, .ro)] [(ty3, 0)] [.tmp 4] (Try.f51.body.getD .skip)
theorem F51_ok : FnOk Try.prog 51 F51 := by
  unfold F51
  exact mkFn_ok (fn := Try.f51) mix C_ok tab64_ok Try.func51 (by kernel_rfl) (by kernel_rfl) (by kernel_rfl) (by kernel_rfl) (by decide)
noncomputable def tab51 : Tab := fun f => bif f == 51 then some F51 else tab64 f
theorem tab51_ok : TabOk Try.prog tab51 := tab_cons tab64_ok F51_ok
/-- loop.example/g03413/impl.IsTrack -/
noncomputable def F16 : Am.Fn := mkFn C tab51 [0, 1, 3, 4, 13, 18, 20, 25, 31, 39, 42, 43, 45] 51 (fun k => bif k == 1000004 then some 57345 else none) (fun _ _ => none) [(ty25, .ro)] [(ty4, 0)] [.tmp 2] (Try.f16.body.getD .skip)
theorem F16_ok : FnOk Try.prog 16 F16 := by
  unfold F16
  exact mkFn_ok (fn := Try.f16) mix C_ok tab51_ok Try.func16 (by kernel_rfl) (by kernel_rfl) (by kernel_rfl) (by kernel_rfl) (by decide)
noncomputable def tab16 : Tab := fun f => bif f == 16 then some F16 else tab51 f
theorem tab16_ok : TabOk Try.prog tab16 := tab_cons tab51_ok F16_ok
/-- loop.example/g03413/laws.eqRatio -/
noncomputable def F27 : Am.Fn := mkFn C tab16 [0, 1, 2, 3, 5, 7, 10, 12] 15 (fun _ => none) (fun _ _ => none) [(ty36, .ro), (ty36, .ro)] [(ty4, 0)] [.tmp 4] (Try.f27.body.getD .skip)
theorem F27_ok : FnOk Try.prog 27 F27 := by
  unfold F27
  exact mkFn_ok (fn := Try.f27) mix C_ok tab16_ok Try.func27 (by kernel_rfl) (by kernel_rfl) (by kernel_rfl) (by kernel_rfl) (by decide)
noncomputable def tab27 : Tab := fun f => bif f == 27 then some F27 else tab16 f
theorem tab27_ok : TabOk Try.prog tab27 := tab_cons tab16_ok F27_ok
/-- loop.example/g03413/laws.eqStop -/
noncomputable def F65 : Am.Fn := mkFn C tab27 [0, 1, 2, 3, 5, 7, 11, 13, 17, 19] 23 (fun _ => none) (fun _ _ => none) [(ty77, .ro), (ty77, .ro)] [(ty4, 0)] [.tmp 4] (Try.f65.body.getD .skip)
theorem F65_ok : FnOk Try.prog 65 F65 := by
  unfold F65
  exact mkFn_ok (fn := Try.f65) mix C_ok tab27_ok Try.func65 (by kernel_rfl) (by kernel_rfl) (by kernel_rfl) (by kernel_rfl) (by decide)
noncomputable def tab65 : Tab := fun f => bif f == 65 then some F65 else tab27 f
theorem tab65_ok : TabOk Try.prog tab65 := tab_cons tab27_ok F65_ok
/-- loop.example/g03413/laws.eqStopS -/
noncomputable def F17 : Am.Fn := mkFn C tab65 [0, 1, 2, 3, 5, 17, 19, 21, 23] 27 (fun k => bif k == 1000004 then some 35 else none) (fun _ _ => none) [(ty25, .ro), (ty25, .ro)] [(ty4, 0)] [.tmp 4] (Try.f17.body.getD .skip)
theorem F17_ok : FnOk Try.prog 17 F17 := by
  unfold F17
  exact mkFn_ok (fn := Try.f17) mix C_ok tab65_ok Try.func17 (by kernel_rfl) (by kernel_rfl) (by kernel_rfl) (by kernel_rfl) (by decide)
noncomputable def tab17 : Tab := fun f => bif f == 17 then some F17 else tab65 f
theorem tab17_ok : TabOk Try.prog tab17 := tab_cons tab65_ok F17_ok
/-- loop.example/g03413/laws.FnExactIsTrack -/
noncomputable def F3 : Am.Fn := mkFn C tab17 [0, 1, 3, 4, 5, 6] 27 (fun _ => none) (fun _ _ => none) [(ty22, .ro)] [(ty4, 0)] [.tmp 2] (Try.f3.body.getD .skip)
theorem F3_ok : FnOk Try.prog 3 F3 := by
  unfold F3
  exact mkFn_ok (fn := Try.f3) mix C_ok tab17_ok Try.func3 (by kernel_rfl) (by kernel_rfl) (by kernel_rfl) (by kernel_rfl) (by decide)
noncomputable def tab3 : Tab := fun f => bif f == 3 then some F3 else tab17 f
theorem tab3_ok : TabOk Try.prog tab3 := tab_cons tab17_ok F3_ok
/-- loop.example/g03413/spec.JoinTracks -/
noncomputable def F18 : Am.Fn := mkFn C tab3 [0, 1, 2, 3, 15, 19, 21, 22, 39] 42 (fun _ => none) (fun _ _ => none) [(ty25, .ro), (ty25, .ro)] [(ty25, 1), (ty4, 0)] [.tmp 4, .tmp 5] (Try.f18.body.getD .skip)
theorem F18_ok : FnOk Try.prog 18 F18 := by
  unfold F18
  exact mkFn_ok (fn := Try.f18) mix C_ok tab3_ok Try.func18 (by kernel_rfl) (by kernel_rfl) (by kernel_rfl) (by kernel_rfl) (by decide)
noncomputable def tab18 : Tab := fun f => bif f == 18 then some F18 else tab3 f
theorem tab18_ok : TabOk Try.prog tab18 := tab_cons tab3_ok F18_ok
/-- loop.example/g03413/impl.JoinTracks -/
noncomputable def F19 : Am.Fn := mkFn C tab18 [0, 1, 2, 3, 15, 19, 21, 22, 38] 41 (fun _ => none) (fun _ _ => none) [(ty25, .ro), (ty25, .ro)] [(ty25, 1), (ty4, 0)] [.tmp 4, .tmp 5] (Try.f19.body.getD .skip)
theorem F19_ok : FnOk Try.prog 19 F19 := by
  unfold F19
  exact mkFn_ok (fn := Try.f19) mix C_ok tab18_ok Try.func19 (by kernel_rfl) (by kernel_rfl) (by kernel_rfl) (by kernel_rfl) (by decide)
noncomputable def tab19 : Tab := fun f => bif f == 19 then some F19 else tab18 f
theorem tab19_ok : TabOk Try.prog tab19 := tab_cons tab18_ok F19_ok
/-- loop.example/g03413/laws.markStopS -/
noncomputable def F20 : Am.Fn := mkFn C tab19 [0, 1, 2, 3, 5, 12, 15, 16, 20, 23, 24, 28, 31, 32, 36, 39, 40, 44, 47, 48, 52, 55, 56] 61 (fun k => bif k == 1000002 then some 35 else none) (fun _ _ => none) [(ty25, .mut 1), (ty3, .ro)] [(ty3, 0)] [.tmp 4] (Try.f20.body.getD .skip)
theorem F20_ok : FnOk Try.prog 20 F20 := by
  unfold F20
  exact mkFn_ok (fn := Try.f20) mix C_ok tab19_ok Try.func20 (by kernel_rfl) (by kernel_rfl) (by kernel_rfl) (by kernel_rfl) (by decide)
noncomputable def tab20 : Tab := fun f => bif f == 20 then some F20 else tab19 f
theorem tab20_ok : TabOk Try.prog tab20 := tab_cons tab19_ok F20_ok
/-- loop.example/g03413/laws.heldStopS -/
noncomputable def F21 : Am.Fn := mkFn C tab20 [0, 1, 2, 3, 5, 12, 14, 15, 16, 22, 24, 25, 26, 32, 34, 35, 36, 42, 44, 45, 46, 52, 54, 55, 56, 62, 64, 65, 66] 73 (fun k => bif k == 1000002 then some 35 else none) (fun _ _ => none) [(ty25, .ro), (ty3, .ro)] [(ty3, 0)] [.tmp 4] (Try.f21.body.getD .skip)
theorem F21_ok : FnOk Try.prog 21 F21 := by
  unfold F21
  exact mkFn_ok (fn := Try.f21) mix C_ok tab20_ok Try.func21 (by kernel_rfl) (by kernel_rfl) (by kernel_rfl) (by kernel_rfl) (by decide)
noncomputable def tab21 : Tab := fun f => bif f == 21 then some F21 else tab20 f
theorem tab21_ok : TabOk Try.prog tab21 := tab_cons tab20_ok F21_ok
/-- loop.example/g03413/laws.FnExactJoinTracks -/
noncomputable def F4 : Am.Fn := mkFn C tab21 [0, 1, 2, 3, 5, 6, 7, 8, 9, 10, 11, 12, 13, 14, 15, 16, 27, 39, 94] 119 (fun _ => none) (fun d i => bif d == 27 then (bif i == 0 then some 33 else bif i == 1 then some 34 else none) else bif d == 39 then (bif i == 0 then some 43 else bif i == 1 then some 44 else none) else bif d == 94 then (bif i == 0 then some 100 else bif i == 1 then some 101 else none) else none) [(ty22, .ro), (ty22, .ro)] [(ty4, 0)] [.tmp 4] (Try.f4.body.getD .skip)
theorem F4_ok : FnOk Try.prog 4 F4 := by
  unfold F4
  exact mkFn_ok (fn := Try.f4) mix C_ok tab21_ok Try.func4 (by kernel_rfl) (by kernel_rfl) (by kernel_rfl) (by kernel_rfl) (by decide)
noncomputable def tab4 : Tab := fun f => bif f == 4 then some F4 else tab21 f
theorem tab4_ok : TabOk Try.prog tab4 := tab_cons tab21_ok F4_ok
/-- loop.example/g03413/spec.l2Make -/
noncomputable def F90 : Am.Fn := mkFn C tab4 [0, 1, 2, 3, 4, 5, 6, 7, 8] 40 (fun k => bif k == 1000007 then some 115 else none) (fun _ _ => none) [(ty3, .ro), (ty3, .ro)] [(ty36, 0)] [.cell 4 36] (Try.f90.body.getD .skip)
theorem F90_ok : FnOk Try.prog 90 F90 := by
  unfold F90
  exact mkFn_ok (fn := Try.f90) mix C_ok tab4_ok Try.func90 (by kernel_rfl) (by kernel_rfl) (by kernel_rfl) (by kernel_rfl) (by decide)
noncomputable def tab90 : Tab := fun f => bif f == 90 then some F90 else tab4 f
theorem tab90_ok : TabOk Try.prog tab90 := tab_cons tab4_ok F90_ok
/-- loop.example/g03413/spec.AddRatios -/
noncomputable def F42 : Am.Fn := mkFn C tab90 [0, 1, 2, 3, 4, 14, 16, 19, 21, 25, 27] 31 (fun _ => none) (fun _ _ => none) [(ty36, .ro), (ty36, .ro)] [(ty36, 0)] [.cell 4 36] (Try.f42.body.getD .skip)
theorem F42_ok : FnOk Try.prog 42 F42 := by
  unfold F42
  exact mkFn_ok (fn := Try.f42) mix C_ok tab90_ok Try.func42 (by kernel_rfl) (by kernel_rfl) (by kernel_rfl) (by kernel_rfl) (by decide)
noncomputable def tab42 : Tab := fun f => bif f == 42 then some F42 else tab90 f
theorem tab42_ok : TabOk Try.prog tab42 := tab_cons tab90_ok F42_ok
/-- loop.example/g03413/spec.MoveTrack -/
noncomputable def F22 : Am.Fn := mkFn C tab42 [0, 1, 2, 3, 4, 5, 6, 7, 10, 11, 24, 26, 27, 31, 33, 34, 38, 40, 41] 53 (fun k => bif k == 1000003 then some 3297 else none) (fun _ _ => none) [(ty25, .ro), (ty36, .ro), (ty36, .ro), (ty36, .ro)] [(ty25, 1), (ty4, 0)] [.tmp 8, .tmp 9] (Try.f22.body.getD .skip)
theorem F22_ok : FnOk Try.prog 22 F22 := by
  unfold F22
  exact mkFn_ok (fn := Try.f22) mix C_ok tab42_ok Try.func22 (by kernel_rfl) (by kernel_rfl) (by kernel_rfl) (by kernel_rfl) (by decide)
noncomputable def tab22 : Tab := fun f => bif f == 22 then some F22 else tab42 f
theorem tab22_ok : TabOk Try.prog tab22 := tab_cons tab42_ok F22_ok
/-- loop.example/g03413/impl.reducedRatio -/
noncomputable def F107 : Am.Fn := mkFn C tab22 [0, 1, 2, 3, 4, 5, 6] 31 (fun _ => none) (fun _ _ => none) [(ty3, .ro), (ty3, .ro)] [(ty36, 0)] [.cell 4 36] (Try.f107.body.getD .skip)
theorem F107_ok : FnOk Try.prog 107 F107 := by
  unfold F107
  exact mkFn_ok (fn := Try.f107) mix C_ok tab22_ok Try.func107 (by kernel_rfl) (by kernel_rfl) (by kernel_rfl) (by kernel_rfl) (by decide)
noncomputable def tab107 : Tab := fun f => bif f == 107 then some F107 else tab22 f
theorem tab107_ok : TabOk Try.prog tab107 := tab_cons tab22_ok F107_ok
/-- loop.example/g03413/impl.AddRatios -/
noncomputable def F66 : Am.Fn := mkFn C tab107 [0, 1, 2, 3, 4, 14, 16, 19, 21, 25, 27] 31 (fun _ => none) (fun _ _ => none) [(ty36, .ro), (ty36, .ro)] [(ty36, 0)] [.cell 4 36] (Try.f66.body.getD .skip)
theorem F66_ok : FnOk Try.prog 66 F66 := by
  unfold F66
  exact mkFn_ok (fn := Try.f66) mix C_ok tab107_ok Try.func66 (by kernel_rfl) (by kernel_rfl) (by kernel_rfl) (by kernel_rfl) (by decide)
noncomputable def tab66 : Tab := fun f => bif f == 66 then some F66 else tab107 f
theorem tab66_ok : TabOk Try.prog tab66 := tab_cons tab107_ok F66_ok
/-- loop.example/g03413/impl.MoveTrack -/
noncomputable def F24 : Am.Fn := mkFn C tab66 [0, 1, 2, 3, 4, 5, 6, 7, 10, 11, 12, 17, 21, 24, 28, 32] 44 (fun k => bif k == 1000005 then some 918753 else none) (fun _ _ => none) [(ty25, .ro), (ty36, .ro), (ty36, .ro), (ty36, .ro)] [(ty25, 1), (ty4, 0)] [.tmp 8, .tmp 9] (Try.f24.body.getD .skip)
theorem F24_ok : FnOk Try.prog 24 F24 := by
  unfold F24
  exact mkFn_ok (fn := Try.f24) mix C_ok tab66_ok Try.func24 (by kernel_rfl) (by kernel_rfl) (by kernel_rfl) (by kernel_rfl) (by decide)
noncomputable def tab24 : Tab := fun f => bif f == 24 then some F24 else tab66 f
theorem tab24_ok : TabOk Try.prog tab24 := tab_cons tab66_ok F24_ok
/-- loop.example/g03413/laws.FnExactMoveTrack -/
noncomputable def F5 : Am.Fn := mkFn C tab24 [0, 1, 2, 3, 4, 5, 6, 7, 9, 10, 11, 12, 13, 14, 15, 16, 17, 18, 19, 25, 39, 91] 120 (fun _ => none) (fun d i => bif d == 25 then (bif i == 0 then some 35 else bif i == 1 then some 36 else none) else bif d == 39 then (bif i == 0 then some 48 else bif i == 1 then some 49 else none) else bif d == 91 then (bif i == 0 then some 101 else bif i == 1 then some 102 else none) else none) [(ty22, .ro), (ty34, .ro), (ty34, .ro), (ty34, .ro)] [(ty4, 0)] [.tmp 8] (Try.f5.body.getD .skip)
theorem F5_ok : FnOk Try.prog 5 F5 := by
  unfold F5
  exact mkFn_ok (fn := Try.f5) mix C_ok tab24_ok Try.func5 (by kernel_rfl) (by kernel_rfl) (by kernel_rfl) (by kernel_rfl) (by decide)
noncomputable def tab5 : Tab := fun f => bif f == 5 then some F5 else tab24 f
theorem tab5_ok : TabOk Try.prog tab5 := tab_cons tab24_ok F5_ok
/-- loop.example/g03413/spec.l1Whole -/
noncomputable def F67 : Am.Fn := mkFn C tab5 [0, 1, 2] 5 (fun _ => none) (fun _ _ => none) [(ty3, .ro)] [(ty36, 0)] [.cell 2 36] (Try.f67.body.getD .skip)
theorem F67_ok : FnOk Try.prog 67 F67 := by
  unfold F67
  exact mkFn_ok (fn := Try.f67) mix C_ok tab5_ok Try.func67 (by kernel_rfl) (by kernel_rfl) (by kernel_rfl) (by kernel_rfl) (by decide)
noncomputable def tab67 : Tab := fun f => bif f == 67 then some F67 else tab5 f
theorem tab67_ok : TabOk Try.prog tab67 := tab_cons tab5_ok F67_ok
/-- loop.example/g03413/spec.NegateRatio -/
noncomputable def F69 : Am.Fn := mkFn C tab67 [0, 1, 2, 7, 10] 13 (fun _ => none) (fun _ _ => none) [(ty36, .ro)] [(ty36, 0)] [.cell 2 36] (Try.f69.body.getD .skip)
theorem F69_ok : FnOk Try.prog 69 F69 := by
  unfold F69
  exact mkFn_ok (fn := Try.f69) mix C_ok tab67_ok Try.func69 (by kernel_rfl) (by kernel_rfl) (by kernel_rfl) (by kernel_rfl) (by decide)
noncomputable def tab69 : Tab := fun f => bif f == 69 then some F69 else tab67 f
theorem tab69_ok : TabOk Try.prog tab69 := tab_cons tab67_ok F69_ok
/-- loop.example/g03413/spec.DivideRatios -/
noncomputable def F132 : Am.Fn := mkFn C tab69 [0, 1, 2, 3, 4, 14, 19, 21, 24, 26] 30 (fun _ => none) (fun _ _ => none) [(ty36, .ro), (ty36, .ro)] [(ty36, 0)] [.cell 4 36] (Try.f132.body.getD .skip)
theorem F132_ok : FnOk Try.prog 132 F132 := by
  unfold F132
  exact mkFn_ok (fn := Try.f132) mix C_ok tab69_ok Try.func132 (by kernel_rfl) (by kernel_rfl) (by kernel_rfl) (by kernel_rfl) (by decide)
noncomputable def tab132 : Tab := fun f => bif f == 132 then some F132 else tab69 f
theorem tab132_ok : TabOk Try.prog tab132 := tab_cons tab69_ok F132_ok
/-- loop.example/g03413/spec.MultiplyRatios -/
noncomputable def F125 : Am.Fn := mkFn C tab132 [0, 1, 2, 3, 4, 14, 16, 19, 21] 25 (fun _ => none) (fun _ _ => none) [(ty36, .ro), (ty36, .ro)] [(ty36, 0)] [.cell 4 36] (Try.f125.body.getD .skip)
theorem F125_ok : FnOk Try.prog 125 F125 := by
  unfold F125
  exact mkFn_ok (fn := Try.f125) mix C_ok tab132_ok Try.func125 (by kernel_rfl) (by kernel_rfl) (by kernel_rfl) (by kernel_rfl) (by decide)
noncomputable def tab125 : Tab := fun f => bif f == 125 then some F125 else tab132 f
theorem tab125_ok : TabOk Try.prog tab125 := tab_cons tab132_ok F125_ok
/-- loop.example/g03413/spec.l8Through -/
noncomputable def F108 : Am.Fn := mkFn C tab125 [0, 1, 2, 3, 4, 5, 6, 7, 8, 9] 27 (fun _ => none) (fun _ _ => none) [(ty36, .ro), (ty36, .ro), (ty36, .ro), (ty36, .ro)] [(ty100, 0)] [.cell 8 100] (Try.f108.body.getD .skip)
theorem F108_ok : FnOk Try.prog 108 F108 := by
  unfold F108
  exact mkFn_ok (fn := Try.f108) mix C_ok tab125_ok Try.func108 (by kernel_rfl) (by kernel_rfl) (by kernel_rfl) (by kernel_rfl) (by decide)
noncomputable def tab108 : Tab := fun f => bif f == 108 then some F108 else tab125 f
theorem tab108_ok : TabOk Try.prog tab108 := tab_cons tab125_ok F108_ok
/-- loop.example/g03413/spec.l8Leg -/
noncomputable def F68 : Am.Fn := mkFn C tab108 [0, 1, 2, 3, 4, 5, 7, 8, 9, 11, 13, 15, 18, 20, 22, 24, 29, 33, 38, 43] 47 (fun _ => none) (fun _ _ => none) [(ty77, .ro), (ty77, .ro)] [(ty100, 0), (ty100, 0), (ty4, 0)] [.cell 4 100, .cell 5 100, .tmp 6] (Try.f68.body.getD .skip)
theorem F68_ok : FnOk Try.prog 68 F68 := by
  unfold F68
  exact mkFn_ok (fn := Try.f68) mix C_ok tab108_ok Try.func68 (by kernel_rfl) (by kernel_rfl) (by kernel_rfl) (by kernel_rfl) (by decide)
noncomputable def tab68 : Tab := fun f => bif f == 68 then some F68 else tab108 f
theorem tab68_ok : TabOk Try.prog tab68 := tab_cons tab108_ok F68_ok
/-- loop.example/g03413/spec.SpeedOf -/
noncomputable def F25 : Am.Fn := mkFn C tab68 [0, 1, 2, 4, 5, 6, 7, 8, 9, 10, 22, 23, 26, 28, 30, 39, 41, 43, 47, 49] 60 (fun k => bif k == 1000005 then some 53 else bif k == 1000011 then some 61572651155509 else none) (fun d i => bif d == 22 then (bif i == 0 then some 33 else bif i == 1 then some 34 else bif i == 2 then some 35 else none) else none) [(ty25, .ro)] [(ty36, 0), (ty4, 0)] [.cell 2 36, .tmp 3] (Try.f25.body.getD .skip)
theorem F25_ok : FnOk Try.prog 25 F25 := by
  unfold F25
  exact mkFn_ok (fn := Try.f25) mix C_ok tab68_ok Try.func25 (by kernel_rfl) (by kernel_rfl) (by kernel_rfl) (by kernel_rfl) (by decide)
noncomputable def tab25 : Tab := fun f => bif f == 25 then some F25 else tab68 f
theorem tab25_ok : TabOk Try.prog tab25 := tab_cons tab68_ok F25_ok
/-- loop.example/g03413/impl.NegateRatio -/
noncomputable def F139 : Am.Fn := mkFn C tab25 [0, 1, 2, 7, 10] 13 (fun _ => none) (fun _ _ => none) [(ty36, .ro)] [(ty36, 0)] [.cell 2 36] (Try.f139.body.getD .skip)
theorem F139_ok : FnOk Try.prog 139 F139 := by
  unfold F139
  exact mkFn_ok (fn := Try.f139) mix C_ok tab25_ok Try.func139 (by kernel_rfl) (by kernel_rfl) (by kernel_rfl) (by kernel_rfl) (by decide)
noncomputable def tab139 : Tab := fun f => bif f == 139 then some F139 else tab25 f
theorem tab139_ok : TabOk Try.prog tab139 := tab_cons tab25_ok F139_ok
/-- loop.example/g03413/impl.subtractRatios -/
noncomputable def F134 : Am.Fn := mkFn C tab139 [0, 1, 2, 3, 4] 9 (fun _ => none) (fun _ _ => none) [(ty36, .ro), (ty36, .ro)] [(ty36, 0)] [.cell 4 36] (Try.f134.body.getD .skip)
theorem F134_ok : FnOk Try.prog 134 F134 := by
  unfold F134
  exact mkFn_ok (fn := Try.f134) mix C_ok tab139_ok Try.func134 (by kernel_rfl) (by kernel_rfl) (by kernel_rfl) (by kernel_rfl) (by decide)
noncomputable def tab134 : Tab := fun f => bif f == 134 then some F134 else tab139 f
theorem tab134_ok : TabOk Try.prog tab134 := tab_cons tab139_ok F134_ok
/-- loop.example/g03413/impl.DivideRatios -/
noncomputable def F133 : Am.Fn := mkFn C tab134 [0, 1, 2, 3, 4, 14, 19, 21, 24, 26] 30 (fun _ => none) (fun _ _ => none) [(ty36, .ro), (ty36, .ro)] [(ty36, 0)] [.cell 4 36] (Try.f133.body.getD .skip)
theorem F133_ok : FnOk Try.prog 133 F133 := by
  unfold F133
  exact mkFn_ok (fn := Try.f133) mix C_ok tab134_ok Try.func133 (by kernel_rfl) (by kernel_rfl) (by kernel_rfl) (by kernel_rfl) (by decide)
noncomputable def tab133 : Tab := fun f => bif f == 133 then some F133 else tab134 f
theorem tab133_ok : TabOk Try.prog tab133 := tab_cons tab134_ok F133_ok
/-- loop.example/g03413/impl.MultiplyRatios -/
noncomputable def F88 : Am.Fn := mkFn C tab133 [0, 1, 2, 3, 4, 14, 16, 19, 21] 25 (fun _ => none) (fun _ _ => none) [(ty36, .ro), (ty36, .ro)] [(ty36, 0)] [.cell 4 36] (Try.f88.body.getD .skip)
theorem F88_ok : FnOk Try.prog 88 F88 := by
  unfold F88
  exact mkFn_ok (fn := Try.f88) mix C_ok tab133_ok Try.func88 (by kernel_rfl) (by kernel_rfl) (by kernel_rfl) (by kernel_rfl) (by decide)
noncomputable def tab88 : Tab := fun f => bif f == 88 then some F88 else tab133 f
theorem tab88_ok : TabOk Try.prog tab88 := tab_cons tab133_ok F88_ok
/-- loop.example/g03413/impl.lineBetween -/
noncomputable def F122 : Am.Fn := mkFn C tab88 [0, 1, 2, 3, 4, 5, 6, 7, 8, 9] 24 (fun _ => none) (fun _ _ => none) [(ty36, .ro), (ty36, .ro), (ty36, .ro), (ty36, .ro)] [(ty108, 0)] [.cell 8 108] (Try.f122.body.getD .skip)
theorem F122_ok : FnOk Try.prog 122 F122 := by
  unfold F122
  exact mkFn_ok (fn := Try.f122) mix C_ok tab88_ok Try.func122 (by kernel_rfl) (by kernel_rfl) (by kernel_rfl) (by kernel_rfl) (by decide)
noncomputable def tab122 : Tab := fun f => bif f == 122 then some F122 else tab88 f
theorem tab122_ok : TabOk Try.prog tab122 := tab_cons tab88_ok F122_ok
/-- (loop.example/g03413/impl.line).valid -/
noncomputable def F123 : Am.Fn := mkFn C tab122 [0, 1, 3, 7] 11 (fun _ => none) (fun _ _ => none) [(ty108, .ro)] [(ty4, 0)] [.tmp 2] (Try.f123.body.getD .skip)
theorem F123_ok : FnOk Try.prog 123 F123 := by
  unfold F123
  exact mkFn_ok (fn := Try.f123) mix C_ok tab122_ok Try.func123 (by kernel_rfl) (by kernel_rfl) (by kernel_rfl) (by kernel_rfl) (by decide)
noncomputable def tab123 : Tab := fun f => bif f == 123 then some F123 else tab122 f
theorem tab123_ok : TabOk Try.prog tab123 := tab_cons tab122_ok F123_ok
/-- loop.example/g03413/impl.legBetween -/
noncomputable def F87 : Am.Fn := mkFn C tab123 [0, 1, 2, 3, 4, 6, 7, 9, 11, 13, 15, 17, 20, 22, 24, 26, 31, 35] 39 (fun _ => none) (fun _ _ => none) [(ty77, .ro), (ty77, .ro)] [(ty110, 0), (ty4, 0)] [.cell 4 110, .tmp 5] (Try.f87.body.getD .skip)
theorem F87_ok : FnOk Try.prog 87 F87 := by
  unfold F87
  exact mkFn_ok (fn := Try.f87) mix C_ok tab123_ok Try.func87 (by kernel_rfl) (by kernel_rfl) (by kernel_rfl) (by kernel_rfl) (by decide)
noncomputable def tab87 : Tab := fun f => bif f == 87 then some F87 else tab123 f
theorem tab87_ok : TabOk Try.prog tab87 := tab_cons tab123_ok F87_ok
/-- loop.example/g03413/impl.legsOf -/
noncomputable def F70 : Am.Fn := mkFn C tab87 [0, 1, 4, 5, 6, 7, 8, 9, 16, 17, 20, 22, 25, 29, 41, 42, 45, 47, 49] 61 (fun k => bif k == 1000008 then some 193 else none) (fun d i => bif d == 41 then (bif i == 0 then some 52 else bif i == 1 then some 53 else none) else none) [(ty25, .ro)] [(ty104, 1), (ty4, 0)] [.tmp 2, .tmp 3] (Try.f70.body.getD .skip)
theorem F70_ok : FnOk Try.prog 70 F70 := by
  unfold F70
  exact mkFn_ok (fn := Try.f70) mix C_ok tab87_ok Try.func70 (by kernel_rfl) (by kernel_rfl) (by kernel_rfl) (by kernel_rfl) (by decide)
noncomputable def tab70 : Tab := fun f => bif f == 70 then some F70 else tab87 f
theorem tab70_ok : TabOk Try.prog tab70 := tab_cons tab87_ok F70_ok
/-- loop.example/g03413/impl.SpeedOf -/
noncomputable def F26 : Am.Fn := mkFn C tab70 [0, 1, 2, 4, 5, 6, 7, 8, 9, 10, 11, 20, 24, 26, 27, 29, 30, 32, 36, 38] 50 (fun k => bif k == 1000006 then some 7340116 else bif k == 1000009 then some 30072111188 else none) (fun d i => bif d == 11 then (bif i == 0 then some 14 else bif i == 1 then some 15 else none) else none) [(ty25, .ro)] [(ty36, 0), (ty4, 0)] [.cell 2 36, .tmp 3] (Try.f26.body.getD .skip)
theorem F26_ok : FnOk Try.prog 26 F26 := by
  unfold F26
  exact mkFn_ok (fn := Try.f26) mix C_ok tab70_ok Try.func26 (by kernel_rfl) (by kernel_rfl) (by kernel_rfl) (by kernel_rfl) (by decide)
noncomputable def tab26 : Tab := fun f => bif f == 26 then some F26 else tab70 f
theorem tab26_ok : TabOk Try.prog tab26 := tab_cons tab70_ok F26_ok
/-- loop.example/g03413/laws.FnExactSpeedOf -/
noncomputable def F6 : Am.Fn := mkFn C tab26 [0, 1, 3, 4, 5, 6, 7, 8, 14, 22] 41 (fun _ => none) (fun d i => bif d == 14 then (bif i == 0 then some 18 else bif i == 1 then some 19 else none) else bif d == 22 then (bif i == 0 then some 25 else bif i == 1 then some 26 else none) else none) [(ty22, .ro)] [(ty4, 0)] [.tmp 2] (Try.f6.body.getD .skip)
theorem F6_ok : FnOk Try.prog 6 F6 := by
  unfold F6
  exact mkFn_ok (fn := Try.f6) mix C_ok tab26_ok Try.func6 (by kernel_rfl) (by kernel_rfl) (by kernel_rfl) (by kernel_rfl) (by decide)
noncomputable def tab6 : Tab := fun f => bif f == 6 then some F6 else tab26 f
theorem tab6_ok : TabOk Try.prog tab6 := tab_cons tab26_ok F6_ok
/-- loop.example/g03413/spec.l8Value -/
noncomputable def F91 : Am.Fn := mkFn C tab6 [0, 1, 2, 3, 4, 5, 9] 12 (fun _ => none) (fun _ _ => none) [(ty100, .ro), (ty36, .ro)] [(ty36, 0)] [.cell 4 36] (Try.f91.body.getD .skip)
theorem F91_ok : FnOk Try.prog 91 F91 := by
  unfold F91
  exact mkFn_ok (fn := Try.f91) mix C_ok tab6_ok Try.func91 (by kernel_rfl) (by kernel_rfl) (by kernel_rfl) (by kernel_rfl) (by decide)
noncomputable def tab91 : Tab := fun f => bif f == 91 then some F91 else tab6 f
theorem tab91_ok : TabOk Try.prog tab91 := tab_cons tab6_ok F91_ok
/-- loop.example/g03413/spec.IsPoint -/
noncomputable def F92 : Am.Fn := mkFn C tab91 [0, 1, 2, 3, 5, 12, 14] 22 (fun k => bif k == 1000002 then some 35 else none) (fun _ _ => none) [(ty63, .ro), (ty3, .ro)] [(ty4, 0)] [.tmp 4] (Try.f92.body.getD .skip)
theorem F92_ok : FnOk Try.prog 92 F92 := by
  unfold F92
  exact mkFn_ok (fn := Try.f92) mix C_ok tab91_ok Try.func92 (by kernel_rfl) (by kernel_rfl) (by kernel_rfl) (by kernel_rfl) (by decide)
noncomputable def tab92 : Tab := fun f => bif f == 92 then some F92 else tab91 f
theorem tab92_ok : TabOk Try.prog tab92 := tab_cons tab91_ok F92_ok
/-- loop.example/g03413/spec.PositionAt -/
noncomputable def F43 : Am.Fn := mkFn C tab92 [0, 1, 2, 3, 6, 7, 8, 9, 10, 26, 28, 29, 33, 35, 36, 38, 40, 41, 47, 50, 51, 58, 60, 61, 65, 66, 69, 71, 73] 96 (fun k => bif k == 1000004 then some 73 else none) (fun d i => bif d == 65 then (bif i == 0 then some 76 else bif i == 1 then some 77 else bif i == 2 then some 78 else none) else none) [(ty25, .ro), (ty36, .ro)] [(ty63, 1), (ty4, 0)] [.tmp 4, .tmp 5] (Try.f43.body.getD .skip)
theorem F43_ok : FnOk Try.prog 43 F43 := by
  unfold F43
  exact mkFn_ok (fn := Try.f43) mix C_ok tab92_ok Try.func43 (by kernel_rfl) (by kernel_rfl) (by kernel_rfl) (by kernel_rfl) (by decide)
noncomputable def tab43 : Tab := fun f => bif f == 43 then some F43 else tab92 f
theorem tab43_ok : TabOk Try.prog tab43 := tab_cons tab92_ok F43_ok
/-- loop.example/g03413/impl.IsPoint -/
noncomputable def F89 : Am.Fn := mkFn C tab43 [0, 1, 2, 3, 5, 6, 11, 15] 21 (fun k => bif k == 1000004 then some 14337 else none) (fun _ _ => none) [(ty63, .ro), (ty3, .ro)] [(ty4, 0)] [.tmp 4] (Try.f89.body.getD .skip)
theorem F89_ok : FnOk Try.prog 89 F89 := by
  unfold F89
  exact mkFn_ok (fn := Try.f89) mix C_ok tab43_ok Try.func89 (by kernel_rfl) (by kernel_rfl) (by kernel_rfl) (by kernel_rfl) (by decide)
noncomputable def tab89 : Tab := fun f => bif f == 89 then some F89 else tab43 f
theorem tab89_ok : TabOk Try.prog tab89 := tab_cons tab43_ok F89_ok
/-- loop.example/g03413/impl.PositionAt -/
noncomputable def F41 : Am.Fn := mkFn C tab89 [0, 1, 2, 3, 6, 7, 8, 9, 10, 11, 20, 25, 28, 33, 35, 42, 43, 46, 54, 55, 59, 60, 63, 64, 68, 69] 78 (fun k => bif k == 1000004 then some 7340041 else none) (fun d i => bif d == 42 then (bif i == 0 then some 50 else bif i == 1 then some 51 else none) else none) [(ty25, .ro), (ty36, .ro)] [(ty63, 1), (ty4, 0)] [.tmp 4, .tmp 5] (Try.f41.body.getD .skip)
theorem F41_ok : FnOk Try.prog 41 F41 := by
  unfold F41
  exact mkFn_ok (fn := Try.f41) mix C_ok tab89_ok Try.func41 (by kernel_rfl) (by kernel_rfl) (by kernel_rfl) (by kernel_rfl) (by decide)
noncomputable def tab41 : Tab := fun f => bif f == 41 then some F41 else tab89 f
theorem tab41_ok : TabOk Try.prog tab41 := tab_cons tab89_ok F41_ok
/-- loop.example/g03413/laws.eqRatioS -/
noncomputable def F44 : Am.Fn := mkFn C tab41 [0, 1, 2, 3, 5, 17, 19, 21, 23] 27 (fun k => bif k == 1000004 then some 35 else none) (fun _ _ => none) [(ty63, .ro), (ty63, .ro)] [(ty4, 0)] [.tmp 4] (Try.f44.body.getD .skip)
theorem F44_ok : FnOk Try.prog 44 F44 := by
  unfold F44
  exact mkFn_ok (fn := Try.f44) mix C_ok tab41_ok Try.func44 (by kernel_rfl) (by kernel_rfl) (by kernel_rfl) (by kernel_rfl) (by decide)
noncomputable def tab44 : Tab := fun f => bif f == 44 then some F44 else tab41 f
theorem tab44_ok : TabOk Try.prog tab44 := tab_cons tab41_ok F44_ok
/-- loop.example/g03413/laws.markRatioS -/
noncomputable def F45 : Am.Fn := mkFn C tab44 [0, 1, 2, 3, 5, 12, 15, 19, 22] 27 (fun k => bif k == 1000002 then some 35 else none) (fun _ _ => none) [(ty63, .mut 1), (ty3, .ro)] [(ty3, 0)] [.tmp 4] (Try.f45.body.getD .skip)
theorem F45_ok : FnOk Try.prog 45 F45 := by
  unfold F45
  exact mkFn_ok (fn := Try.f45) mix C_ok tab44_ok Try.func45 (by kernel_rfl) (by kernel_rfl) (by kernel_rfl) (by kernel_rfl) (by decide)
noncomputable def tab45 : Tab := fun f => bif f == 45 then some F45 else tab44 f
theorem tab45_ok : TabOk Try.prog tab45 := tab_cons tab44_ok F45_ok
/-- loop.example/g03413/laws.heldRatioS -/
noncomputable def F46 : Am.Fn := mkFn C tab45 [0, 1, 2, 3, 5, 12, 14, 15, 21, 23, 24] 31 (fun k => bif k == 1000002 then some 35 else none) (fun _ _ => none) [(ty63, .ro), (ty3, .ro)] [(ty3, 0)] [.tmp 4] (Try.f46.body.getD .skip)
theorem F46_ok : FnOk Try.prog 46 F46 := by
  unfold F46
  exact mkFn_ok (fn := Try.f46) mix C_ok tab45_ok Try.func46 (by kernel_rfl) (by kernel_rfl) (by kernel_rfl) (by kernel_rfl) (by decide)
noncomputable def tab46 : Tab := fun f => bif f == 46 then some F46 else tab45 f
theorem tab46_ok : TabOk Try.prog tab46 := tab_cons tab45_ok F46_ok
/-- loop.example/g03413/laws.FnExactPositionAt -/
noncomputable def F9 : Am.Fn := mkFn C tab46 [0, 1, 2, 3, 5, 6, 7, 8, 9, 10, 11, 12, 13, 14, 15, 21, 31, 79] 104 (fun _ => none) (fun d i => bif d == 21 then (bif i == 0 then some 27 else bif i == 1 then some 28 else none) else bif d == 31 then (bif i == 0 then some 36 else bif i == 1 then some 37 else none) else bif d == 79 then (bif i == 0 then some 85 else bif i == 1 then some 86 else none) else none) [(ty22, .ro), (ty34, .ro)] [(ty4, 0)] [.tmp 4] (Try.f9.body.getD .skip)
theorem F9_ok : FnOk Try.prog 9 F9 := by
  unfold F9
  exact mkFn_ok (fn := Try.f9) mix C_ok tab46_ok Try.func9 (by kernel_rfl) (by kernel_rfl) (by kernel_rfl) (by kernel_rfl) (by decide)
noncomputable def tab9 : Tab := fun f => bif f == 9 then some F9 else tab46 f
theorem tab9_ok : TabOk Try.prog tab9 := tab_cons tab46_ok F9_ok
/-- loop.example/g03413/spec.CutTrack -/
noncomputable def F47 : Am.Fn := mkFn C tab9 [0, 1, 2, 3, 4, 5, 8, 9, 10, 11, 12, 13, 14, 20, 39, 40, 42, 43, 54, 56, 57, 61, 63, 64, 70, 72, 81, 82, 84, 85] 95 (fun k => bif k == 1000007 then some 13361 else none) (fun d i => bif d == 14 then (bif i == 0 then some 18 else bif i == 1 then some 19 else none) else bif d == 20 then (bif i == 0 then some 24 else bif i == 1 then some 25 else none) else none) [(ty25, .ro), (ty36, .ro), (ty36, .ro)] [(ty25, 1), (ty4, 0)] [.tmp 6, .tmp 7] (Try.f47.body.getD .skip)
theorem F47_ok : FnOk Try.prog 47 F47 := by
  unfold F47
  exact mkFn_ok (fn := Try.f47) mix C_ok tab9_ok Try.func47 (by kernel_rfl) (by kernel_rfl) (by kernel_rfl) (by kernel_rfl) (by decide)
noncomputable def tab47 : Tab := fun f => bif f == 47 then some F47 else tab9 f
theorem tab47_ok : TabOk Try.prog tab47 := tab_cons tab9_ok F47_ok
/-- loop.example/g03413/impl.CutTrack -/
noncomputable def F48 : Am.Fn := mkFn C tab47 [0, 1, 2, 3, 4, 5, 8, 9, 10, 11, 12, 13, 14, 15, 21, 40, 41, 43, 44, 48, 52, 54, 60, 76, 77, 79, 80] 89 (fun k => bif k == 1000007 then some 1970324836979761 else none) (fun d i => bif d == 15 then (bif i == 0 then some 19 else bif i == 1 then some 20 else none) else bif d == 21 then (bif i == 0 then some 25 else bif i == 1 then some 26 else none) else none) [(ty25, .ro), (ty36, .ro), (ty36, .ro)] [(ty25, 1), (ty4, 0)] [.tmp 6, .tmp 7] (Try.f48.body.getD .skip)
theorem F48_ok : FnOk Try.prog 48 F48 := by
  unfold F48
  exact mkFn_ok (fn := Try.f48) mix C_ok tab47_ok Try.func48 (by kernel_rfl) (by kernel_rfl) (by kernel_rfl) (by kernel_rfl) (by decide)
noncomputable def tab48 : Tab := fun f => bif f == 48 then some F48 else tab47 f
theorem tab48_ok : TabOk Try.prog tab48 := tab_cons tab47_ok F48_ok
/-- loop.example/g03413/laws.FnExactCutTrack -/
noncomputable def F10 : Am.Fn := mkFn C tab48 [0, 1, 2, 3, 4, 5, 7, 8, 9, 10, 11, 12, 13, 14, 15, 16, 17, 23, 35, 85] 112 (fun _ => none) (fun d i => bif d == 23 then (bif i == 0 then some 31 else bif i == 1 then some 32 else none) else bif d == 35 then (bif i == 0 then some 42 else bif i == 1 then some 43 else none) else bif d == 85 then (bif i == 0 then some 93 else bif i == 1 then some 94 else none) else none) [(ty22, .ro), (ty34, .ro), (ty34, .ro)] [(ty4, 0)] [.tmp 6] (Try.f10.body.getD .skip)
theorem F10_ok : FnOk Try.prog 10 F10 := by
  unfold F10
  exact mkFn_ok (fn := Try.f10) mix C_ok tab48_ok Try.func10 (by kernel_rfl) (by kernel_rfl) (by kernel_rfl) (by kernel_rfl) (by decide)
noncomputable def tab10 : Tab := fun f => bif f == 10 then some F10 else tab48 f
theorem tab10_ok : TabOk Try.prog tab10 := tab_cons tab48_ok F10_ok
end Go.Proofs.Ytdfcejijcnhcaaa.B.It
