/- A part of the proof: It2d. No conditions. -/
import Derived.Test.YtdfcejijcnhcaaaDG8
import Derived.Test.YtdfcejijcnhcaaaChecked
import Derived.KernelRfl
set_option linter.unusedVariables false
namespace Go.Proofs.Ytdfcejijcnhcaaa.D.It
open Am
abbrev ty1 : Ty := (.raw 1)
abbrev ty2 : Ty := (.int .i64)
abbrev ty3 : Ty := (.int .i64)
abbrev ty4 : Ty := .bool
abbrev ty5 : Ty := (.int .u8)
abbrev ty6 : Ty := (.int .u8)
abbrev ty7 : Ty := (.agg (.pair ty2 (.pair ty3 (.pair ty4 ty6))))
abbrev ty8 : Ty := (.agg (.pair ty2 (.pair ty3 (.pair ty4 ty6))))
abbrev ty9 : Ty := .str
abbrev ty10 : Ty := .str
abbrev ty11 : Ty := .str
abbrev ty12 : Ty := (.int .u64)
abbrev ty15 : Ty := (.raw 0)
abbrev ty16 : Ty := (.raw 0)
abbrev ty17 : Ty := (.raw 0)
abbrev ty20 : Ty := (.raw 2)
abbrev ty21 : Ty := (.int .i32)
abbrev ty23 : Ty := (.raw 1)
abbrev ty24 : Ty := (.raw 1)
abbrev ty26 : Ty := (.raw 1)
abbrev ty27 : Ty := (.raw 1)
abbrev ty28 : Ty := (.raw 1)
abbrev ty30 : Ty := (.raw 1)
abbrev ty31 : Ty := (.raw 1)
abbrev ty32 : Ty := (.raw 1)
abbrev ty33 : Ty := (.agg (.pair ty3 ty3))
abbrev ty34 : Ty := (.agg (.pair ty3 ty3))
abbrev ty35 : Ty := (.raw 1)
abbrev ty36 : Ty := (.agg (.pair ty3 ty3))
abbrev ty37 : Ty := (.raw 1)
abbrev ty38 : Ty := (.raw 1)
abbrev ty40 : Ty := (.raw 1)
abbrev ty41 : Ty := (.raw 1)
abbrev ty45 : Ty := (.slice 3 ty3)
abbrev ty46 : Ty := (.raw 1)
abbrev ty51 : Ty := (.raw 1)
abbrev ty52 : Ty := (.raw 1)
abbrev ty53 : Ty := (.raw 1)
abbrev ty54 : Ty := (.raw 1)
abbrev ty55 : Ty := (.raw 1)
abbrev ty56 : Ty := (.raw 1)
abbrev ty57 : Ty := (.raw 1)
abbrev ty58 : Ty := (.raw 1)
abbrev ty59 : Ty := (.slice 5 ty5)
abbrev ty60 : Ty := (.raw 1)
abbrev ty62 : Ty := (.raw 1)
abbrev ty63 : Ty := (.slice 36 ty36)
abbrev ty64 : Ty := (.raw 1)
abbrev ty66 : Ty := (.raw 1)
abbrev ty67 : Ty := (.raw 1)
abbrev ty68 : Ty := (.raw 1)
abbrev ty69 : Ty := (.raw 1)
abbrev ty70 : Ty := (.raw 1)
abbrev ty71 : Ty := (.raw 1)
abbrev ty72 : Ty := (.raw 1)
abbrev ty74 : Ty := (.raw 1)
abbrev ty75 : Ty := (.raw 1)
abbrev ty76 : Ty := (.agg (.pair ty36 (.pair ty36 ty36)))
abbrev ty77 : Ty := (.agg (.pair ty36 (.pair ty36 ty36)))
abbrev ty81 : Ty := (.raw 1)
abbrev ty82 : Ty := (.raw 1)
abbrev ty83 : Ty := (.raw 1)
abbrev ty85 : Ty := (.raw 1)
abbrev ty88 : Ty := (.raw 1)
abbrev ty89 : Ty := (.raw 1)
abbrev ty90 : Ty := (.raw 1)
abbrev ty91 : Ty := (.raw 1)
abbrev ty92 : Ty := (.raw 1)
abbrev ty93 : Ty := (.raw 1)
abbrev ty94 : Ty := (.raw 1)
abbrev ty95 : Ty := (.agg (.pair ty34 (.pair ty34 ty34)))
abbrev ty96 : Ty := (.agg (.pair ty34 (.pair ty34 ty34)))
abbrev ty97 : Ty := (.raw 1)
abbrev ty98 : Ty := (.raw 1)
abbrev ty99 : Ty := (.agg (.pair ty36 ty36))
abbrev ty100 : Ty := (.agg (.pair ty36 ty36))
abbrev ty102 : Ty := (.raw 1)
abbrev ty103 : Ty := (.raw 1)
abbrev ty106 : Ty := (.raw 1)
abbrev ty107 : Ty := (.agg (.pair ty36 ty36))
abbrev ty108 : Ty := (.agg (.pair ty36 ty36))
abbrev ty109 : Ty := (.agg (.pair ty36 (.pair ty36 (.pair ty108 ty108))))
abbrev ty110 : Ty := (.agg (.pair ty36 (.pair ty36 (.pair ty108 ty108))))
abbrev ty111 : Ty := (.raw 1)
abbrev ty112 : Ty := (.raw 1)
abbrev ty113 : Ty := (.raw 1)
abbrev ty114 : Ty := (.agg (.pair ty45 (.pair ty3 ty4)))
abbrev ty115 : Ty := (.agg (.pair ty45 (.pair ty3 ty4)))
abbrev ty117 : Ty := (.raw 1)
abbrev ty118 : Ty := (.raw 1)
abbrev ty119 : Ty := (.raw 1)
abbrev ty120 : Ty := (.raw 1)
abbrev ty121 : Ty := (.raw 1)
abbrev ty122 : Ty := (.raw 0)
abbrev ty123 : Ty := (.raw 1)
abbrev ty124 : Ty := (.raw 1)
abbrev ty125 : Ty := (.raw 1)
abbrev ty126 : Ty := (.raw 1)
abbrev ty127 : Ty := (.raw 1)
abbrev ty129 : Ty := (.raw 1)
abbrev ty130 : Ty := (.raw 1)
abbrev ty131 : Ty := (.raw 1)
abbrev ty132 : Ty := (.raw 1)
abbrev ty136 : Ty := (.raw 1)
abbrev ty137 : Ty := (.raw 1)
abbrev ty138 : Ty := (.raw 1)
abbrev ty142 : Ty := (.raw 1)
abbrev ty143 : Ty := (.raw 1)
abbrev ty144 : Ty := (.raw 1)
abbrev ty145 : Ty := (.raw 1)
abbrev ty146 : Ty := (.raw 1)
abbrev ty147 : Ty := (.raw 1)
abbrev ty148 : Ty := (.agg (.pair ty45 (.pair ty3 ty4)))
abbrev ty149 : Ty := (.raw 1)
abbrev ty150 : Ty := (.raw 1)
abbrev ty151 : Ty := (.raw 1)
abbrev ty152 : Ty := (.raw 1)
abbrev ty153 : Ty := (.agg (.pair ty59 (.pair ty3 ty3)))
abbrev ty154 : Ty := (.agg (.pair ty59 (.pair ty3 ty3)))
abbrev ty155 : Ty := (.raw 1)
abbrev ty156 : Ty := (.raw 1)
abbrev ty157 : Ty := (.raw 1)
abbrev ty158 : Ty := (.raw 1)
abbrev ty159 : Ty := (.raw 1)
abbrev ty160 : Ty := (.raw 1)
abbrev ty161 : Ty := (.raw 1)
abbrev ty162 : Ty := (.raw 1)
abbrev ty163 : Ty := (.raw 1)
abbrev ty164 : Ty := (.int .u64)
abbrev ty165 : Ty := (.raw 1)
abbrev ty170 : Ty := (.raw 1)
abbrev ty171 : Ty := (.raw 1)
abbrev ty172 : Ty := (.raw 1)
abbrev ty178 : Ty := (.raw 1)
abbrev ty179 : Ty := (.int .u32)
abbrev ty180 : Ty := (.int .u8)
abbrev ty181 : Ty := (.int .u8)
abbrev ty182 : Ty := (.raw 1)
abbrev ty183 : Ty := (.raw 0)
abbrev ty184 : Ty := (.int .i32)
abbrev ty185 : Ty := (.int .i32)
abbrev ty188 : Ty := (.raw 1)
abbrev ty22 : Ty := (.slice 96 ty96)
abbrev ty25 : Ty := (.slice 77 ty77)
abbrev ty42 : Ty := (.slice 148 ty148)
abbrev ty43 : Ty := (.agg (.pair ty3 ty42))
abbrev ty44 : Ty := (.agg (.pair ty3 ty42))
abbrev ty47 : Ty := (.slice 115 ty115)
abbrev ty48 : Ty := (.agg (.pair ty3 ty47))
abbrev ty49 : Ty := (.agg (.pair ty3 ty47))
abbrev ty79 : Ty := (.agg (.pair ty3 (.pair ty9 (.pair ty9 (.pair ty44 ty45)))))
abbrev ty80 : Ty := (.agg (.pair ty3 (.pair ty9 (.pair ty9 (.pair ty44 ty45)))))
abbrev ty86 : Ty := (.agg (.pair ty3 (.pair ty9 (.pair ty9 (.pair ty49 ty45)))))
abbrev ty87 : Ty := (.agg (.pair ty3 (.pair ty9 (.pair ty9 (.pair ty49 ty45)))))
abbrev ty104 : Ty := (.slice 110 ty110)
abbrev ty166 : Ty := (.agg (.pair ty9 ty44))
abbrev ty167 : Ty := (.agg (.pair ty9 ty44))
abbrev ty168 : Ty := (.agg (.pair ty9 ty49))
abbrev ty169 : Ty := (.agg (.pair ty9 ty49))
abbrev ty133 : Ty := (.slice 167 ty167)
abbrev ty134 : Ty := (.agg (.pair ty9 (.pair ty3 ty133)))
abbrev ty135 : Ty := (.agg (.pair ty9 (.pair ty3 ty133)))
abbrev ty139 : Ty := (.slice 169 ty169)
abbrev ty140 : Ty := (.agg (.pair ty9 (.pair ty3 ty139)))
abbrev ty141 : Ty := (.agg (.pair ty9 (.pair ty3 ty139)))
abbrev ty78 : Ty := (.slice 135 ty135)
abbrev ty84 : Ty := (.slice 141 ty141)
def tys : Tys := [(1, ty1, 8), (2, ty2, 8), (3, ty3, 8), (4, ty4, 1), (5, ty5, 1), (6, ty6, 1), (7, ty7, 24), (8, ty8, 24), (9, ty9, 16), (10, ty10, 16), (11, ty11, 16), (12, ty12, 8), (15, ty15, 8), (16, ty16, 8), (17, ty17, 8), (20, ty20, 16), (21, ty21, 4), (23, ty23, 8), (24, ty24, 8), (26, ty26, 8), (27, ty27, 8), (28, ty28, 8), (30, ty30, 8), (31, ty31, 8), (32, ty32, 8), (33, ty33, 16), (34, ty34, 16), (35, ty35, 8), (36, ty36, 16), (37, ty37, 8), (38, ty38, 8), (40, ty40, 8), (41, ty41, 8), (45, ty45, 24), (46, ty46, 8), (51, ty51, 8), (52, ty52, 8), (53, ty53, 8), (54, ty54, 8), (55, ty55, 8), (56, ty56, 8), (57, ty57, 8), (58, ty58, 8), (59, ty59, 24), (60, ty60, 8), (62, ty62, 8), (63, ty63, 24), (64, ty64, 8), (66, ty66, 8), (67, ty67, 8), (68, ty68, 8), (69, ty69, 8), (70, ty70, 8), (71, ty71, 8), (72, ty72, 8), (74, ty74, 8), (75, ty75, 8), (76, ty76, 48), (77, ty77, 48), (81, ty81, 8), (82, ty82, 8), (83, ty83, 8), (85, ty85, 8), (88, ty88, 8), (89, ty89, 8), (90, ty90, 8), (91, ty91, 8), (92, ty92, 8), (93, ty93, 8), (94, ty94, 8), (95, ty95, 48), (96, ty96, 48), (97, ty97, 8), (98, ty98, 8), (99, ty99, 32), (100, ty100, 32), (102, ty102, 8), (103, ty103, 8), (106, ty106, 8), (107, ty107, 32), (108, ty108, 32), (109, ty109, 96), (110, ty110, 96), (111, ty111, 8), (112, ty112, 8), (113, ty113, 8), (114, ty114, 40), (115, ty115, 40), (117, ty117, 8), (118, ty118, 8), (119, ty119, 8), (120, ty120, 8), (121, ty121, 8), (122, ty122, 8), (123, ty123, 8), (124, ty124, 8), (125, ty125, 8), (126, ty126, 8), (127, ty127, 8), (129, ty129, 8), (130, ty130, 8), (131, ty131, 8), (132, ty132, 8), (136, ty136, 8), (137, ty137, 8), (138, ty138, 8), (142, ty142, 8), (143, ty143, 8), (144, ty144, 8), (145, ty145, 8), (146, ty146, 8), (147, ty147, 8), (148, ty148, 40), (149, ty149, 8), (150, ty150, 8), (151, ty151, 8), (152, ty152, 8), (153, ty153, 40), (154, ty154, 40), (155, ty155, 8), (156, ty156, 8), (157, ty157, 8), (158, ty158, 8), (159, ty159, 8), (160, ty160, 8), (161, ty161, 8), (162, ty162, 8), (163, ty163, 8), (164, ty164, 8), (165, ty165, 8), (170, ty170, 8), (171, ty171, 8), (172, ty172, 8), (178, ty178, 8), (179, ty179, 4), (180, ty180, 1), (181, ty181, 1), (182, ty182, 8), (183, ty183, 8), (184, ty184, 4), (185, ty185, 4), (188, ty188, 8), (22, ty22, 24), (25, ty25, 24), (42, ty42, 24), (43, ty43, 32), (44, ty44, 32), (47, ty47, 24), (48, ty48, 32), (49, ty49, 32), (79, ty79, 96), (80, ty80, 96), (86, ty86, 96), (87, ty87, 96), (104, ty104, 24), (166, ty166, 48), (167, ty167, 48), (168, ty168, 48), (169, ty169, 48), (133, ty133, 24), (134, ty134, 48), (135, ty135, 48), (139, ty139, 24), (140, ty140, 48), (141, ty141, 48), (78, ty78, 24), (84, ty84, 24)]
noncomputable abbrev C : Ctx := mkCtx tys
theorem mix : Try.prog.follows .mixedOrders = true := by kernel_rfl
theorem C_ok : CtxOk Try.prog C := ctx_ok (by kernel_rfl)
def tab0 : Tab := fun _ => none
theorem tab0_ok : TabOk Try.prog tab0 := fun _ _ h => by cases h
theorem tab_cons {tab : Tab} {f : FuncId} {F : Am.Fn} (h : TabOk Try.prog tab) (hF : FnOk Try.prog f F) : TabOk Try.prog (fun g => bif g == f then some F else tab g) := by
  intro g G hg
  dsimp only at hg
  cases hc : g == f with
  | true =>
    rw [hc] at hg
    simp only [cond_true, Option.some.injEq] at hg
    rw [beq_iff_eq] at hc
    subst hc hg
    exact hF
  | false =>
    rw [hc] at hg
    exact h g G hg
/-- loop.example/g03413/laws.szIntS -/
noncomputable def F94 : Am.Fn := mkFn C tab0 [0, 1, 2, 3] 12 (fun _ => none) ⟨fun _ _ => none, fun s => Nat.testBit 0 s, fun _ => []⟩ [(ty45, .ro), (ty3, .ro)] [(ty3, 0)] [.tmp 4] (Try.f94.body.getD .skip)
theorem F94_ok : FnOk Try.prog 94 F94 := by
  unfold F94
  exact mkFn_ok (fn := Try.f94) mix C_ok tab0_ok Try.func94 (by kernel_rfl) (by kernel_rfl) (by kernel_rfl) (by kernel_rfl) (by decide)
noncomputable def tab94 : Tab := fun f => bif f == 94 then some F94 else tab0 f
theorem tab94_ok : TabOk Try.prog tab94 := tab_cons tab0_ok F94_ok
/-- loop.example/g03413/laws.szAtom -/
noncomputable def F109 : Am.Fn := mkFn C tab94 [0, 1, 2, 3, 5] 12 (fun _ => none) ⟨fun _ _ => none, fun s => Nat.testBit 4 s, fun r => bif r == 2 then [6] else []⟩ [(ty148, .ro), (ty3, .ro)] [(ty3, 0)] [.tmp 4] (Try.f109.body.getD .skip)
theorem F109_ok : FnOk Try.prog 109 F109 := by
  unfold F109
  exact mkFn_ok (fn := Try.f109) mix C_ok tab94_ok Try.func109 (by kernel_rfl) (by kernel_rfl) (by kernel_rfl) (by kernel_rfl) (by decide)
noncomputable def tab109 : Tab := fun f => bif f == 109 then some F109 else tab94 f
theorem tab109_ok : TabOk Try.prog tab109 := tab_cons tab94_ok F109_ok
/-- loop.example/g03413/laws.szAtomS -/
noncomputable def F72 : Am.Fn := mkFn C tab109 [0, 1, 2, 3, 5, 18, 20] 27 (fun k => bif k == 1000005 then some 35 else none) ⟨fun _ _ => none, fun s => Nat.testBit 0 s, fun _ => []⟩ [(ty42, .ro), (ty3, .ro)] [(ty3, 0)] [.tmp 4] (Try.f72.body.getD .skip)
theorem F72_ok : FnOk Try.prog 72 F72 := by
  unfold F72
  exact mkFn_ok (fn := Try.f72) mix C_ok tab109_ok Try.func72 (by kernel_rfl) (by kernel_rfl) (by kernel_rfl) (by kernel_rfl) (by decide)
noncomputable def tab72 : Tab := fun f => bif f == 72 then some F72 else tab109 f
theorem tab72_ok : TabOk Try.prog tab72 := tab_cons tab109_ok F72_ok
/-- loop.example/g03413/laws.szCell -/
noncomputable def F28 : Am.Fn := mkFn C tab72 [0, 1, 2, 3, 5] 12 (fun _ => none) ⟨fun _ _ => none, fun s => Nat.testBit 4 s, fun r => bif r == 2 then [6] else []⟩ [(ty44, .ro), (ty3, .ro)] [(ty3, 0)] [.tmp 4] (Try.f28.body.getD .skip)
theorem F28_ok : FnOk Try.prog 28 F28 := by
  unfold F28
  exact mkFn_ok (fn := Try.f28) mix C_ok tab72_ok Try.func28 (by kernel_rfl) (by kernel_rfl) (by kernel_rfl) (by kernel_rfl) (by decide)
noncomputable def tab28 : Tab := fun f => bif f == 28 then some F28 else tab72 f
theorem tab28_ok : TabOk Try.prog tab28 := tab_cons tab72_ok F28_ok
/-- loop.example/g03413/laws.toIntS -/
noncomputable def F31 : Am.Fn := mkFn C tab28 [0, 1, 3, 4, 14, 16, 18] 22 (fun k => bif k == 1000003 then some 25 else none) ⟨fun _ _ => none, fun s => Nat.testBit 0 s, fun _ => []⟩ [(ty45, .ro)] [(ty45, 1)] [.tmp 2] (Try.f31.body.getD .skip)
theorem F31_ok : FnOk Try.prog 31 F31 := by
  unfold F31
  exact mkFn_ok (fn := Try.f31) mix C_ok tab28_ok Try.func31 (by kernel_rfl) (by kernel_rfl) (by kernel_rfl) (by kernel_rfl) (by decide)
noncomputable def tab31 : Tab := fun f => bif f == 31 then some F31 else tab28 f
theorem tab31_ok : TabOk Try.prog tab31 := tab_cons tab28_ok F31_ok
/-- loop.example/g03413/laws.toAtom -/
noncomputable def F112 : Am.Fn := mkFn C tab31 [0, 1, 2, 3, 4, 8, 11] 15 (fun k => bif k == 2 then some 14 else bif k == 3 then some 14 else bif k == 4 then some 14 else bif k == 5 then some 12 else none) ⟨fun _ _ => none, fun s => Nat.testBit 14 s, fun r => bif r == 1 then [5] else bif r == 2 then [] else bif r == 3 then [14] else []⟩ [(ty148, .ro)] [(ty115, 1)] [.cell 2 115] (Try.f112.body.getD .skip)
theorem F112_ok : FnOk Try.prog 112 F112 := by
  unfold F112
  exact mkFn_ok (fn := Try.f112) mix C_ok tab31_ok Try.func112 (by kernel_rfl) (by kernel_rfl) (by kernel_rfl) (by kernel_rfl) (by decide)
noncomputable def tab112 : Tab := fun f => bif f == 112 then some F112 else tab31 f
theorem tab112_ok : TabOk Try.prog tab112 := tab_cons tab31_ok F112_ok
/-- loop.example/g03413/laws.toAtomS -/
noncomputable def F75 : Am.Fn := mkFn C tab112 [0, 1, 3, 4, 14, 16, 18] 23 (fun k => bif k == 1000003 then some 25 else none) ⟨fun _ _ => none, fun s => Nat.testBit 0 s, fun _ => []⟩ [(ty42, .ro)] [(ty47, 2)] [.tmp 2] (Try.f75.body.getD .skip)
theorem F75_ok : FnOk Try.prog 75 F75 := by
  unfold F75
  exact mkFn_ok (fn := Try.f75) mix C_ok tab112_ok Try.func75 (by kernel_rfl) (by kernel_rfl) (by kernel_rfl) (by kernel_rfl) (by decide)
noncomputable def tab75 : Tab := fun f => bif f == 75 then some F75 else tab112 f
theorem tab75_ok : TabOk Try.prog tab75 := tab_cons tab112_ok F75_ok
/-- loop.example/g03413/laws.toCell -/
noncomputable def F30 : Am.Fn := mkFn C tab75 [0, 1, 2, 3, 4, 7] 12 (fun k => bif k == 2 then some 14 else bif k == 3 then some 14 else bif k == 4 then some 12 else none) ⟨fun _ _ => none, fun s => Nat.testBit 14 s, fun r => bif r == 1 then [8] else bif r == 2 then [] else bif r == 3 then [11] else []⟩ [(ty44, .ro)] [(ty49, 2)] [.cell 2 49] (Try.f30.body.getD .skip)
theorem F30_ok : FnOk Try.prog 30 F30 := by
  unfold F30
  exact mkFn_ok (fn := Try.f30) mix C_ok tab75_ok Try.func30 (by kernel_rfl) (by kernel_rfl) (by kernel_rfl) (by kernel_rfl) (by decide)
noncomputable def tab30 : Tab := fun f => bif f == 30 then some F30 else tab75 f
theorem tab30_ok : TabOk Try.prog tab30 := tab_cons tab75_ok F30_ok
/-- loop.example/g03413/spec.l1In -/
noncomputable def F62 : Am.Fn := mkFn C tab30 [0, 1, 2, 3, 4, 5] 15 (fun _ => none) ⟨fun _ _ => none, fun s => Nat.testBit 0 s, fun _ => []⟩ [(ty3, .ro), (ty3, .ro), (ty3, .ro)] [(ty4, 0)] [.tmp 6] (Try.f62.body.getD .skip)
theorem F62_ok : FnOk Try.prog 62 F62 := by
  unfold F62
  exact mkFn_ok (fn := Try.f62) mix C_ok tab30_ok Try.func62 (by kernel_rfl) (by kernel_rfl) (by kernel_rfl) (by kernel_rfl) (by decide)
noncomputable def tab62 : Tab := fun f => bif f == 62 then some F62 else tab30 f
theorem tab62_ok : TabOk Try.prog tab62 := tab_cons tab30_ok F62_ok
/-- loop.example/g03413/spec.IsNumber -/
noncomputable def F103 : Am.Fn := mkFn C tab62 [0, 1] 5 (fun _ => none) ⟨fun _ _ => none, fun s => Nat.testBit 0 s, fun _ => []⟩ [(ty3, .ro)] [(ty4, 0)] [.tmp 2] (Try.f103.body.getD .skip)
theorem F103_ok : FnOk Try.prog 103 F103 := by
  unfold F103
  exact mkFn_ok (fn := Try.f103) mix C_ok tab62_ok Try.func103 (by kernel_rfl) (by kernel_rfl) (by kernel_rfl) (by kernel_rfl) (by decide)
noncomputable def tab103 : Tab := fun f => bif f == 103 then some F103 else tab62 f
theorem tab103_ok : TabOk Try.prog tab103 := tab_cons tab62_ok F103_ok
/-- loop.example/g03413/spec.l1Abs -/
noncomputable def F124 : Am.Fn := mkFn C tab103 [0, 1] 7 (fun _ => none) ⟨fun _ _ => none, fun s => Nat.testBit 0 s, fun _ => []⟩ [(ty3, .ro)] [(ty3, 0)] [.tmp 2] (Try.f124.body.getD .skip)
theorem F124_ok : FnOk Try.prog 124 F124 := by
  unfold F124
  exact mkFn_ok (fn := Try.f124) mix C_ok tab103_ok Try.func124 (by kernel_rfl) (by kernel_rfl) (by kernel_rfl) (by kernel_rfl) (by decide)
noncomputable def tab124 : Tab := fun f => bif f == 124 then some F124 else tab103 f
theorem tab124_ok : TabOk Try.prog tab124 := tab_cons tab103_ok F124_ok
/-- loop.example/g03413/spec.l2Gcd -/
noncomputable def F111 : Am.Fn := mkFn C tab124 [0, 1, 2, 3, 5, 6, 7, 16, 18] 28 (fun k => bif k == 1000003 then some 97 else bif k == 1000006 then some 225 else none) ⟨fun _ _ => none, fun s => Nat.testBit 0 s, fun _ => []⟩ [(ty45, .ro), (ty3, .ro)] [(ty3, 0)] [.tmp 4] (Try.f111.body.getD .skip)
theorem F111_ok : FnOk Try.prog 111 F111 := by
  unfold F111
  exact mkFn_ok (fn := Try.f111) mix C_ok tab124_ok Try.func111 (by kernel_rfl) (by kernel_rfl) (by kernel_rfl) (by kernel_rfl) (by decide)
noncomputable def tab111 : Tab := fun f => bif f == 111 then some F111 else tab124 f
theorem tab111_ok : TabOk Try.prog tab111 := tab_cons tab124_ok F111_ok
/-- loop.example/g03413/spec.IsAtom -/
noncomputable def F110 : Am.Fn := mkFn C tab111 [0, 1, 3, 4, 9, 15, 21, 22, 24, 28, 30] 34 (fun k => bif k == 1 then some 6 else bif k == 4 then some 14 else bif k == 1000004 then some 10 else none) ⟨fun _ _ => none, fun s => Nat.testBit 2 s, fun r => bif r == 1 then [5, 16, 22, 24, 29] else []⟩ [(ty115, .ro)] [(ty4, 0)] [.tmp 2] (Try.f110.body.getD .skip)
theorem F110_ok : FnOk Try.prog 110 F110 := by
  unfold F110
  exact mkFn_ok (fn := Try.f110) mix C_ok tab111_ok Try.func110 (by kernel_rfl) (by kernel_rfl) (by kernel_rfl) (by kernel_rfl) (by decide)
noncomputable def tab110 : Tab := fun f => bif f == 110 then some F110 else tab111 f
theorem tab110_ok : TabOk Try.prog tab110 := tab_cons tab111_ok F110_ok
/-- loop.example/g03413/spec.IsCell -/
noncomputable def F73 : Am.Fn := mkFn C tab110 [0, 1, 3, 5, 11, 12, 14, 19, 20, 22, 23, 26, 30, 34] 39 (fun k => bif k == 2 then some 14 else bif k == 4 then some 14 else bif k == 6 then some 6 else bif k == 1000002 then some 10 else none) ⟨fun _ _ => none, fun s => Nat.testBit 2 s, fun r => bif r == 1 then [6, 12, 14, 15, 20, 22, 23, 24, 35] else []⟩ [(ty49, .ro)] [(ty4, 0)] [.tmp 2] (Try.f73.body.getD .skip)
theorem F73_ok : FnOk Try.prog 73 F73 := by
  unfold F73
  exact mkFn_ok (fn := Try.f73) mix C_ok tab110_ok Try.func73 (by kernel_rfl) (by kernel_rfl) (by kernel_rfl) (by kernel_rfl) (by decide)
noncomputable def tab73 : Tab := fun f => bif f == 73 then some F73 else tab110 f
theorem tab73_ok : TabOk Try.prog tab73 := tab_cons tab110_ok F73_ok
/-- loop.example/g03413/spec.l2Atom -/
noncomputable def F74 : Am.Fn := mkFn C tab73 [0, 1, 2, 3, 4, 5, 6, 8, 9, 10, 26, 28, 30] 42 (fun k => bif k == 1 then some 199 else bif k == 2 then some 455 else bif k == 4 then some 1985 else bif k == 6 then some 1985 else bif k == 8 then some 192 else bif k == 9 then some 704 else bif k == 1000004 then some 1857 else none) ⟨fun _ _ => none, fun s => Nat.testBit 576 s, fun r => bif r == 6 then [] else bif r == 9 then [27, 37, 41] else []⟩ [(ty45, .ro), (ty3, .ro), (ty4, .ro)] [(ty115, 1), (ty4, 0)] [.cell 6 115, .tmp 7] (Try.f74.body.getD .skip)
theorem F74_ok : FnOk Try.prog 74 F74 := by
  unfold F74
  exact mkFn_ok (fn := Try.f74) mix C_ok tab73_ok Try.func74 (by kernel_rfl) (by kernel_rfl) (by kernel_rfl) (by kernel_rfl) (by decide)
noncomputable def tab74 : Tab := fun f => bif f == 74 then some F74 else tab73 f
theorem tab74_ok : TabOk Try.prog tab74 := tab_cons tab73_ok F74_ok
/-- loop.example/g03413/spec.MoveCell -/
noncomputable def F29 : Am.Fn := mkFn C tab74 [0, 1, 2, 3, 4, 6, 7, 8, 9, 10, 11, 18, 23, 27, 33, 34, 36, 37, 40, 45, 47, 53, 54, 56, 57, 58, 60, 62, 64, 68, 69, 70, 72, 73, 76, 77, 79, 80, 88] 95 (fun k => bif k == 1 then some 54 else bif k == 2 then some 48 else bif k == 3 then some 54 else bif k == 5 then some 246 else bif k == 12 then some 48 else bif k == 14 then some 502 else bif k == 16 then some 48 else bif k == 17 then some 1270 else bif k == 18 then some 112 else bif k == 1000005 then some 214 else bif k == 1000009 then some 982 else none) ⟨fun d i => bif d == 68 then (bif i == 0 then some 83 else bif i == 1 then some 84 else none) else none, fun s => Nat.testBit 1108 s, fun r => bif r == 2 then [12, 28, 34, 36, 37, 54, 56, 57, 58, 60, 70, 72, 73, 74, 77, 79, 80] else bif r == 4 then [] else bif r == 6 then [89, 94] else bif r == 10 then [90] else []⟩ [(ty49, .ro), (ty45, .ro)] [(ty49, 2), (ty4, 0)] [.cell 4 49, .tmp 5] (Try.f29.body.getD .skip)
theorem F29_ok : FnOk Try.prog 29 F29 := by
  unfold F29
  exact mkFn_ok (fn := Try.f29) mix C_ok tab74_ok Try.func29 (by kernel_rfl) (by kernel_rfl) (by kernel_rfl) (by kernel_rfl) (by decide)
noncomputable def tab29 : Tab := fun f => bif f == 29 then some F29 else tab74 f
theorem tab29_ok : TabOk Try.prog tab29 := tab_cons tab74_ok F29_ok
/-- loop.example/g03413/impl.IsNumber -/
noncomputable def F105 : Am.Fn := mkFn C tab29 [0, 1] 9 (fun _ => none) ⟨fun _ _ => none, fun s => Nat.testBit 0 s, fun _ => []⟩ [(ty3, .ro)] [(ty4, 0)] [.tmp 2] (Try.f105.body.getD .skip)
theorem F105_ok : FnOk Try.prog 105 F105 := by
  unfold F105
  exact mkFn_ok (fn := Try.f105) mix C_ok tab29_ok Try.func105 (by kernel_rfl) (by kernel_rfl) (by kernel_rfl) (by kernel_rfl) (by decide)
noncomputable def tab105 : Tab := fun f => bif f == 105 then some F105 else tab29 f
theorem tab105_ok : TabOk Try.prog tab105 := tab_cons tab29_ok F105_ok
/-- loop.example/g03413/impl.absolute -/
noncomputable def F71 : Am.Fn := mkFn C tab105 [0, 1] 8 (fun _ => none) ⟨fun _ _ => none, fun s => Nat.testBit 0 s, fun _ => []⟩ [(ty3, .ro)] [(ty3, 0)] [.tmp 2] (Try.f71.body.getD .skip)
theorem F71_ok : FnOk Try.prog 71 F71 := by
  unfold F71
  exact mkFn_ok (fn := Try.f71) mix C_ok tab105_ok Try.func71 (by kernel_rfl) (by kernel_rfl) (by kernel_rfl) (by kernel_rfl) (by decide)
noncomputable def tab71 : Tab := fun f => bif f == 71 then some F71 else tab105 f
theorem tab71_ok : TabOk Try.prog tab71 := tab_cons tab105_ok F71_ok
/-- loop.example/g03413/impl.commonDivisor -/
noncomputable def F114 : Am.Fn := mkFn C tab71 [0, 1, 2, 3] 16 (fun k => bif k == 1000002 then some 3 else none) ⟨fun _ _ => none, fun s => Nat.testBit 0 s, fun _ => []⟩ [(ty3, .ro), (ty3, .ro)] [(ty3, 0)] [.tmp 4] (Try.f114.body.getD .skip)
theorem F114_ok : FnOk Try.prog 114 F114 := by
  unfold F114
  exact mkFn_ok (fn := Try.f114) mix C_ok tab71_ok Try.func114 (by kernel_rfl) (by kernel_rfl) (by kernel_rfl) (by kernel_rfl) (by decide)
noncomputable def tab114 : Tab := fun f => bif f == 114 then some F114 else tab71 f
theorem tab114_ok : TabOk Try.prog tab114 := tab_cons tab71_ok F114_ok
/-- loop.example/g03413/impl.divisorOf -/
noncomputable def F115 : Am.Fn := mkFn C tab114 [0, 1, 3, 4, 5, 6, 10] 17 (fun k => bif k == 1000003 then some 457 else none) ⟨fun _ _ => none, fun s => Nat.testBit 0 s, fun _ => []⟩ [(ty45, .ro)] [(ty3, 0)] [.tmp 2] (Try.f115.body.getD .skip)
theorem F115_ok : FnOk Try.prog 115 F115 := by
  unfold F115
  exact mkFn_ok (fn := Try.f115) mix C_ok tab114_ok Try.func115 (by kernel_rfl) (by kernel_rfl) (by kernel_rfl) (by kernel_rfl) (by decide)
noncomputable def tab115 : Tab := fun f => bif f == 115 then some F115 else tab114 f
theorem tab115_ok : TabOk Try.prog tab115 := tab_cons tab114_ok F115_ok
/-- loop.example/g03413/impl.IsAtom -/
noncomputable def F113 : Am.Fn := mkFn C tab115 [0, 1, 3, 4, 5, 10, 15, 16, 20, 26, 29] 33 (fun k => bif k == 1 then some 6 else bif k == 3 then some 6 else bif k == 1000004 then some 491522 else none) ⟨fun _ _ => none, fun s => Nat.testBit 2 s, fun r => bif r == 1 then [6, 16, 20, 27] else []⟩ [(ty115, .ro)] [(ty4, 0)] [.tmp 2] (Try.f113.body.getD .skip)
theorem F113_ok : FnOk Try.prog 113 F113 := by
  unfold F113
  exact mkFn_ok (fn := Try.f113) mix C_ok tab115_ok Try.func113 (by kernel_rfl) (by kernel_rfl) (by kernel_rfl) (by kernel_rfl) (by decide)
noncomputable def tab113 : Tab := fun f => bif f == 113 then some F113 else tab115 f
theorem tab113_ok : TabOk Try.prog tab113 := tab_cons tab115_ok F113_ok
/-- loop.example/g03413/impl.IsCell -/
noncomputable def F76 : Am.Fn := mkFn C tab113 [0, 1, 3, 4, 5, 9, 14, 19, 20, 24, 30, 33] 38 (fun k => bif k == 1 then some 6 else bif k == 3 then some 6 else bif k == 5 then some 7864326 else bif k == 6 then some 7864342 else bif k == 1000004 then some 7864322 else none) ⟨fun _ _ => none, fun s => Nat.testBit 18 s, fun r => bif r == 1 then [15, 20, 24, 25] else bif r == 4 then [26, 31] else []⟩ [(ty49, .ro)] [(ty4, 0)] [.tmp 2] (Try.f76.body.getD .skip)
theorem F76_ok : FnOk Try.prog 76 F76 := by
  unfold F76
  exact mkFn_ok (fn := Try.f76) mix C_ok tab113_ok Try.func76 (by kernel_rfl) (by kernel_rfl) (by kernel_rfl) (by kernel_rfl) (by decide)
noncomputable def tab76 : Tab := fun f => bif f == 76 then some F76 else tab113 f
theorem tab76_ok : TabOk Try.prog tab76 := tab_cons tab113_ok F76_ok
/-- loop.example/g03413/impl.isMove -/
noncomputable def F77 : Am.Fn := mkFn C tab76 [0, 1] 9 (fun _ => none) ⟨fun _ _ => none, fun s => Nat.testBit 0 s, fun _ => []⟩ [(ty3, .ro)] [(ty4, 0)] [.tmp 2] (Try.f77.body.getD .skip)
theorem F77_ok : FnOk Try.prog 77 F77 := by
  unfold F77
  exact mkFn_ok (fn := Try.f77) mix C_ok tab76_ok Try.func77 (by kernel_rfl) (by kernel_rfl) (by kernel_rfl) (by kernel_rfl) (by decide)
noncomputable def tab77 : Tab := fun f => bif f == 77 then some F77 else tab76 f
theorem tab77_ok : TabOk Try.prog tab77 := tab_cons tab76_ok F77_ok
/-- loop.example/g03413/impl.makeOf -/
noncomputable def F78 : Am.Fn := mkFn C tab77 [0, 1, 2, 3, 4, 5, 6, 8, 9, 10, 11, 26, 31, 33, 34] 46 (fun k => bif k == 4 then some 455 else bif k == 5 then some 961 else bif k == 8 then some 469766081 else bif k == 11 then some 192 else bif k == 12 then some 704 else bif k == 1000006 then some 469762881 else none) ⟨fun _ _ => none, fun s => Nat.testBit 576 s, fun r => bif r == 6 then [] else bif r == 9 then [34, 39, 41, 45] else []⟩ [(ty45, .ro), (ty3, .ro), (ty4, .ro)] [(ty115, 1), (ty4, 0)] [.cell 6 115, .tmp 7] (Try.f78.body.getD .skip)
theorem F78_ok : FnOk Try.prog 78 F78 := by
  unfold F78
  exact mkFn_ok (fn := Try.f78) mix C_ok tab77_ok Try.func78 (by kernel_rfl) (by kernel_rfl) (by kernel_rfl) (by kernel_rfl) (by decide)
noncomputable def tab78 : Tab := fun f => bif f == 78 then some F78 else tab77 f
theorem tab78_ok : TabOk Try.prog tab78 := tab_cons tab77_ok F78_ok
/-- loop.example/g03413/impl.MoveCell -/
noncomputable def F32 : Am.Fn := mkFn C tab78 [0, 1, 2, 3, 4, 6, 7, 8, 9, 10, 11, 12, 13, 20, 25, 29, 30, 34, 36, 38, 43, 50, 51, 53, 59, 60, 63, 71] 79 (fun k => bif k == 1 then some 54 else bif k == 2 then some 48 else bif k == 3 then some 54 else bif k == 4 then some 118 else bif k == 6 then some 8053063798 else bif k == 8 then some 8053064566 else bif k == 12 then some 48 else bif k == 15 then some 8053064566 else bif k == 17 then some 48 else bif k == 18 then some 8053067894 else bif k == 20 then some 112 else bif k == 1000005 then some 8053063766 else bif k == 1000009 then some 1932198413142 else none) ⟨fun d i => bif d == 59 then (bif i == 0 then some 66 else bif i == 1 then some 67 else none) else none, fun s => Nat.testBit 4436 s, fun r => bif r == 2 then [14, 30, 34, 35] else bif r == 4 then [] else bif r == 6 then [72, 78] else bif r == 8 then [51, 53, 61] else bif r == 12 then [73] else []⟩ [(ty49, .ro), (ty45, .ro)] [(ty49, 2), (ty4, 0)] [.cell 4 49, .tmp 5] (Try.f32.body.getD .skip)
theorem F32_ok : FnOk Try.prog 32 F32 := by
  unfold F32
  exact mkFn_ok (fn := Try.f32) mix C_ok tab78_ok Try.func32 (by kernel_rfl) (by kernel_rfl) (by kernel_rfl) (by kernel_rfl) (by decide)
noncomputable def tab32 : Tab := fun f => bif f == 32 then some F32 else tab78 f
theorem tab32_ok : TabOk Try.prog tab32 := tab_cons tab78_ok F32_ok
/-- loop.example/g03413/laws.eqIntS -/
noncomputable def F34 : Am.Fn := mkFn C tab32 [0, 1, 2, 3, 5, 17, 19, 21, 23] 26 (fun k => bif k == 1000004 then some 35 else none) ⟨fun _ _ => none, fun s => Nat.testBit 0 s, fun _ => []⟩ [(ty45, .ro), (ty45, .ro)] [(ty4, 0)] [.tmp 4] (Try.f34.body.getD .skip)
theorem F34_ok : FnOk Try.prog 34 F34 := by
  unfold F34
  exact mkFn_ok (fn := Try.f34) mix C_ok tab32_ok Try.func34 (by kernel_rfl) (by kernel_rfl) (by kernel_rfl) (by kernel_rfl) (by decide)
noncomputable def tab34 : Tab := fun f => bif f == 34 then some F34 else tab32 f
theorem tab34_ok : TabOk Try.prog tab34 := tab_cons tab32_ok F34_ok
/-- loop.example/g03413/laws.eqAtom -/
noncomputable def F116 : Am.Fn := mkFn C tab34 [0, 1, 2, 3, 5, 7, 11, 13, 16, 18] 21 (fun _ => none) ⟨fun _ _ => none, fun s => Nat.testBit 12 s, fun r => bif r == 2 then [6] else bif r == 3 then [8] else []⟩ [(ty115, .ro), (ty115, .ro)] [(ty4, 0)] [.tmp 4] (Try.f116.body.getD .skip)
theorem F116_ok : FnOk Try.prog 116 F116 := by
  unfold F116
  exact mkFn_ok (fn := Try.f116) mix C_ok tab34_ok Try.func116 (by kernel_rfl) (by kernel_rfl) (by kernel_rfl) (by kernel_rfl) (by decide)
noncomputable def tab116 : Tab := fun f => bif f == 116 then some F116 else tab34 f
theorem tab116_ok : TabOk Try.prog tab116 := tab_cons tab34_ok F116_ok
/-- loop.example/g03413/laws.eqAtomS -/
noncomputable def F79 : Am.Fn := mkFn C tab116 [0, 1, 2, 3, 5, 17, 19, 21, 23] 27 (fun k => bif k == 1000004 then some 35 else none) ⟨fun _ _ => none, fun s => Nat.testBit 0 s, fun _ => []⟩ [(ty47, .ro), (ty47, .ro)] [(ty4, 0)] [.tmp 4] (Try.f79.body.getD .skip)
theorem F79_ok : FnOk Try.prog 79 F79 := by
  unfold F79
  exact mkFn_ok (fn := Try.f79) mix C_ok tab116_ok Try.func79 (by kernel_rfl) (by kernel_rfl) (by kernel_rfl) (by kernel_rfl) (by decide)
noncomputable def tab79 : Tab := fun f => bif f == 79 then some F79 else tab116 f
theorem tab79_ok : TabOk Try.prog tab79 := tab_cons tab116_ok F79_ok
/-- loop.example/g03413/laws.eqCell -/
noncomputable def F33 : Am.Fn := mkFn C tab79 [0, 1, 2, 3, 5, 7, 10, 12] 16 (fun _ => none) ⟨fun _ _ => none, fun s => Nat.testBit 12 s, fun r => bif r == 2 then [11] else bif r == 3 then [13] else []⟩ [(ty49, .ro), (ty49, .ro)] [(ty4, 0)] [.tmp 4] (Try.f33.body.getD .skip)
theorem F33_ok : FnOk Try.prog 33 F33 := by
  unfold F33
  exact mkFn_ok (fn := Try.f33) mix C_ok tab79_ok Try.func33 (by kernel_rfl) (by kernel_rfl) (by kernel_rfl) (by kernel_rfl) (by decide)
noncomputable def tab33 : Tab := fun f => bif f == 33 then some F33 else tab79 f
theorem tab33_ok : TabOk Try.prog tab33 := tab_cons tab79_ok F33_ok
/-- loop.example/g03413/laws.markIntS -/
noncomputable def F36 : Am.Fn := mkFn C tab33 [0, 1, 2, 3, 5, 12] 19 (fun k => bif k == 1000002 then some 35 else none) ⟨fun _ _ => none, fun s => Nat.testBit 0 s, fun _ => []⟩ [(ty45, .mut 1), (ty3, .ro)] [(ty3, 0)] [.tmp 4] (Try.f36.body.getD .skip)
theorem F36_ok : FnOk Try.prog 36 F36 := by
  unfold F36
  exact mkFn_ok (fn := Try.f36) mix C_ok tab33_ok Try.func36 (by kernel_rfl) (by kernel_rfl) (by kernel_rfl) (by kernel_rfl) (by decide)
noncomputable def tab36 : Tab := fun f => bif f == 36 then some F36 else tab33 f
theorem tab36_ok : TabOk Try.prog tab36 := tab_cons tab33_ok F36_ok
/-- loop.example/g03413/laws.markAtomS -/
noncomputable def F80 : Am.Fn := mkFn C tab36 [0, 1, 2, 3, 5, 12, 14, 15, 19, 22, 26, 31] 36 (fun k => bif k == 1000002 then some 35 else none) ⟨fun _ _ => none, fun s => Nat.testBit 0 s, fun _ => []⟩ [(ty47, .mut 2), (ty3, .ro)] [(ty3, 0)] [.tmp 4] (Try.f80.body.getD .skip)
theorem F80_ok : FnOk Try.prog 80 F80 := by
  unfold F80
  exact mkFn_ok (fn := Try.f80) mix C_ok tab36_ok Try.func80 (by kernel_rfl) (by kernel_rfl) (by kernel_rfl) (by kernel_rfl) (by decide)
noncomputable def tab80 : Tab := fun f => bif f == 80 then some F80 else tab36 f
theorem tab80_ok : TabOk Try.prog tab80 := tab_cons tab36_ok F80_ok
/-- loop.example/g03413/laws.markCell -/
noncomputable def F35 : Am.Fn := mkFn C tab80 [0, 1, 2, 3, 5] 10 (fun _ => none) ⟨fun _ _ => none, fun s => Nat.testBit 4 s, fun r => bif r == 2 then [6] else []⟩ [(ty49, .mut 2), (ty3, .ro)] [(ty3, 0)] [.tmp 4] (Try.f35.body.getD .skip)
theorem F35_ok : FnOk Try.prog 35 F35 := by
  unfold F35
  exact mkFn_ok (fn := Try.f35) mix C_ok tab80_ok Try.func35 (by kernel_rfl) (by kernel_rfl) (by kernel_rfl) (by kernel_rfl) (by decide)
noncomputable def tab35 : Tab := fun f => bif f == 35 then some F35 else tab80 f
theorem tab35_ok : TabOk Try.prog tab35 := tab_cons tab80_ok F35_ok
/-- loop.example/g03413/laws.heldIntS -/
noncomputable def F117 : Am.Fn := mkFn C tab35 [0, 1, 2, 3, 5, 12, 14] 21 (fun k => bif k == 1000002 then some 35 else none) ⟨fun _ _ => none, fun s => Nat.testBit 0 s, fun _ => []⟩ [(ty45, .ro), (ty3, .ro)] [(ty3, 0)] [.tmp 4] (Try.f117.body.getD .skip)
theorem F117_ok : FnOk Try.prog 117 F117 := by
  unfold F117
  exact mkFn_ok (fn := Try.f117) mix C_ok tab35_ok Try.func117 (by kernel_rfl) (by kernel_rfl) (by kernel_rfl) (by kernel_rfl) (by decide)
noncomputable def tab117 : Tab := fun f => bif f == 117 then some F117 else tab35 f
theorem tab117_ok : TabOk Try.prog tab117 := tab_cons tab35_ok F117_ok
/-- loop.example/g03413/laws.heldAtomS -/
noncomputable def F81 : Am.Fn := mkFn C tab117 [0, 1, 2, 3, 5, 12, 14, 15, 21, 23, 24, 30, 32, 33] 42 (fun k => bif k == 1000002 then some 35 else none) ⟨fun _ _ => none, fun s => Nat.testBit 0 s, fun _ => []⟩ [(ty47, .ro), (ty3, .ro)] [(ty3, 0)] [.tmp 4] (Try.f81.body.getD .skip)
theorem F81_ok : FnOk Try.prog 81 F81 := by
  unfold F81
  exact mkFn_ok (fn := Try.f81) mix C_ok tab117_ok Try.func81 (by kernel_rfl) (by kernel_rfl) (by kernel_rfl) (by kernel_rfl) (by decide)
noncomputable def tab81 : Tab := fun f => bif f == 81 then some F81 else tab117 f
theorem tab81_ok : TabOk Try.prog tab81 := tab_cons tab117_ok F81_ok
/-- loop.example/g03413/laws.heldCell -/
noncomputable def F37 : Am.Fn := mkFn C tab81 [0, 1, 2, 3, 5] 12 (fun _ => none) ⟨fun _ _ => none, fun s => Nat.testBit 4 s, fun r => bif r == 2 then [6] else []⟩ [(ty49, .ro), (ty3, .ro)] [(ty3, 0)] [.tmp 4] (Try.f37.body.getD .skip)
theorem F37_ok : FnOk Try.prog 37 F37 := by
  unfold F37
  exact mkFn_ok (fn := Try.f37) mix C_ok tab81_ok Try.func37 (by kernel_rfl) (by kernel_rfl) (by kernel_rfl) (by kernel_rfl) (by decide)
noncomputable def tab37 : Tab := fun f => bif f == 37 then some F37 else tab81 f
theorem tab37_ok : TabOk Try.prog tab37 := tab_cons tab81_ok F37_ok
/-- loop.example/g03413/laws.FnExactMoveCell -/
noncomputable def F7 : Am.Fn := mkFn C tab37 [0, 1, 2, 3, 5, 6, 7, 8, 9, 10, 11, 12, 13, 14, 15, 16, 25, 37, 92] 117 (fun k => bif k == 1 then some 22 else bif k == 7 then some 22 else bif k == 8 then some 214 else bif k == 10 then some 982 else bif k == 30 then some 9430 else none) ⟨fun d i => bif d == 25 then (bif i == 0 then some 31 else bif i == 1 then some 32 else none) else bif d == 37 then (bif i == 0 then some 41 else bif i == 1 then some 42 else none) else bif d == 92 then (bif i == 0 then some 98 else bif i == 1 then some 99 else none) else none, fun s => Nat.testBit 34116 s, fun r => bif r == 2 then [20, 26, 33, 53, 93] else bif r == 6 then [44, 72, 101] else bif r == 8 then [38, 52, 62] else bif r == 10 then [43, 71, 81, 84, 109] else bif r == 15 then [100] else []⟩ [(ty44, .ro), (ty45, .ro)] [(ty4, 0)] [.tmp 4] (Try.f7.body.getD .skip)
theorem F7_ok : FnOk Try.prog 7 F7 := by
  unfold F7
  exact mkFn_ok (fn := Try.f7) mix C_ok tab37_ok Try.func7 (by kernel_rfl) (by kernel_rfl) (by kernel_rfl) (by kernel_rfl) (by decide)
noncomputable def tab7 : Tab := fun f => bif f == 7 then some F7 else tab37 f
theorem tab7_ok : TabOk Try.prog tab7 := tab_cons tab37_ok F7_ok
/-- loop.example/g03413/laws.szRow -/
noncomputable def F135 : Am.Fn := mkFn C tab7 [0, 1, 2, 3, 6, 12] 19 (fun k => bif k == 1 then some 22 else none) ⟨fun _ _ => none, fun s => Nat.testBit 4 s, fun r => bif r == 2 then [13] else []⟩ [(ty167, .ro), (ty3, .ro)] [(ty3, 0)] [.tmp 4] (Try.f135.body.getD .skip)
theorem F135_ok : FnOk Try.prog 135 F135 := by
  unfold F135
  exact mkFn_ok (fn := Try.f135) mix C_ok tab7_ok Try.func135 (by kernel_rfl) (by kernel_rfl) (by kernel_rfl) (by kernel_rfl) (by decide)
noncomputable def tab135 : Tab := fun f => bif f == 135 then some F135 else tab7 f
theorem tab135_ok : TabOk Try.prog tab135 := tab_cons tab7_ok F135_ok
/-- loop.example/g03413/laws.szRowS -/
noncomputable def F126 : Am.Fn := mkFn C tab135 [0, 1, 2, 3, 5, 18, 20] 27 (fun k => bif k == 1000005 then some 35 else none) ⟨fun _ _ => none, fun s => Nat.testBit 0 s, fun _ => []⟩ [(ty133, .ro), (ty3, .ro)] [(ty3, 0)] [.tmp 4] (Try.f126.body.getD .skip)
theorem F126_ok : FnOk Try.prog 126 F126 := by
  unfold F126
  exact mkFn_ok (fn := Try.f126) mix C_ok tab135_ok Try.func126 (by kernel_rfl) (by kernel_rfl) (by kernel_rfl) (by kernel_rfl) (by decide)
noncomputable def tab126 : Tab := fun f => bif f == 126 then some F126 else tab135 f
theorem tab126_ok : TabOk Try.prog tab126 := tab_cons tab135_ok F126_ok
/-- loop.example/g03413/laws.szRelation -/
noncomputable def F93 : Am.Fn := mkFn C tab126 [0, 1, 2, 3, 6, 12] 19 (fun k => bif k == 1 then some 22 else none) ⟨fun _ _ => none, fun s => Nat.testBit 4 s, fun r => bif r == 2 then [13] else []⟩ [(ty135, .ro), (ty3, .ro)] [(ty3, 0)] [.tmp 4] (Try.f93.body.getD .skip)
theorem F93_ok : FnOk Try.prog 93 F93 := by
  unfold F93
  exact mkFn_ok (fn := Try.f93) mix C_ok tab126_ok Try.func93 (by kernel_rfl) (by kernel_rfl) (by kernel_rfl) (by kernel_rfl) (by decide)
noncomputable def tab93 : Tab := fun f => bif f == 93 then some F93 else tab126 f
theorem tab93_ok : TabOk Try.prog tab93 := tab_cons tab126_ok F93_ok
/-- loop.example/g03413/laws.szRelationS -/
noncomputable def F52 : Am.Fn := mkFn C tab93 [0, 1, 2, 3, 5, 18, 20] 27 (fun k => bif k == 1000005 then some 35 else none) ⟨fun _ _ => none, fun s => Nat.testBit 0 s, fun _ => []⟩ [(ty78, .ro), (ty3, .ro)] [(ty3, 0)] [.tmp 4] (Try.f52.body.getD .skip)
theorem F52_ok : FnOk Try.prog 52 F52 := by
  unfold F52
  exact mkFn_ok (fn := Try.f52) mix C_ok tab93_ok Try.func52 (by kernel_rfl) (by kernel_rfl) (by kernel_rfl) (by kernel_rfl) (by decide)
noncomputable def tab52 : Tab := fun f => bif f == 52 then some F52 else tab93 f
theorem tab52_ok : TabOk Try.prog tab52 := tab_cons tab93_ok F52_ok
/-- loop.example/g03413/laws.szOp -/
noncomputable def F53 : Am.Fn := mkFn C tab52 [0, 1, 2, 3, 6, 13, 19, 25] 32 (fun k => bif k == 1 then some 22 else bif k == 4 then some 22 else none) ⟨fun _ _ => none, fun s => Nat.testBit 4 s, fun r => bif r == 2 then [20, 26] else []⟩ [(ty80, .ro), (ty3, .ro)] [(ty3, 0)] [.tmp 4] (Try.f53.body.getD .skip)
theorem F53_ok : FnOk Try.prog 53 F53 := by
  unfold F53
  exact mkFn_ok (fn := Try.f53) mix C_ok tab52_ok Try.func53 (by kernel_rfl) (by kernel_rfl) (by kernel_rfl) (by kernel_rfl) (by decide)
noncomputable def tab53 : Tab := fun f => bif f == 53 then some F53 else tab52 f
theorem tab53_ok : TabOk Try.prog tab53 := tab_cons tab52_ok F53_ok
/-- loop.example/g03413/laws.toRow -/
noncomputable def F136 : Am.Fn := mkFn C tab53 [0, 1, 2, 3, 4, 7] 12 (fun k => bif k == 2 then some 14 else bif k == 3 then some 14 else bif k == 4 then some 12 else none) ⟨fun _ _ => none, fun s => Nat.testBit 14 s, fun r => bif r == 1 then [8] else bif r == 2 then [] else bif r == 3 then [11] else []⟩ [(ty167, .ro)] [(ty169, 2)] [.cell 2 169] (Try.f136.body.getD .skip)
theorem F136_ok : FnOk Try.prog 136 F136 := by
  unfold F136
  exact mkFn_ok (fn := Try.f136) mix C_ok tab53_ok Try.func136 (by kernel_rfl) (by kernel_rfl) (by kernel_rfl) (by kernel_rfl) (by decide)
noncomputable def tab136 : Tab := fun f => bif f == 136 then some F136 else tab53 f
theorem tab136_ok : TabOk Try.prog tab136 := tab_cons tab53_ok F136_ok
/-- loop.example/g03413/laws.toRowS -/
noncomputable def F128 : Am.Fn := mkFn C tab136 [0, 1, 3, 4, 14, 16, 18] 23 (fun k => bif k == 1000003 then some 25 else none) ⟨fun _ _ => none, fun s => Nat.testBit 0 s, fun _ => []⟩ [(ty133, .ro)] [(ty139, 3)] [.tmp 2] (Try.f128.body.getD .skip)
theorem F128_ok : FnOk Try.prog 128 F128 := by
  unfold F128
  exact mkFn_ok (fn := Try.f128) mix C_ok tab136_ok Try.func128 (by kernel_rfl) (by kernel_rfl) (by kernel_rfl) (by kernel_rfl) (by decide)
noncomputable def tab128 : Tab := fun f => bif f == 128 then some F128 else tab136 f
theorem tab128_ok : TabOk Try.prog tab128 := tab_cons tab136_ok F128_ok
/-- loop.example/g03413/laws.toRelation -/
noncomputable def F98 : Am.Fn := mkFn C tab128 [0, 1, 2, 3, 4, 7, 10] 15 (fun k => bif k == 2 then some 14 else bif k == 3 then some 14 else bif k == 4 then some 14 else bif k == 5 then some 12 else none) ⟨fun _ _ => none, fun s => Nat.testBit 14 s, fun r => bif r == 1 then [11] else bif r == 2 then [] else bif r == 3 then [14] else []⟩ [(ty135, .ro)] [(ty141, 3)] [.cell 2 141] (Try.f98.body.getD .skip)
theorem F98_ok : FnOk Try.prog 98 F98 := by
  unfold F98
  exact mkFn_ok (fn := Try.f98) mix C_ok tab128_ok Try.func98 (by kernel_rfl) (by kernel_rfl) (by kernel_rfl) (by kernel_rfl) (by decide)
noncomputable def tab98 : Tab := fun f => bif f == 98 then some F98 else tab128 f
theorem tab98_ok : TabOk Try.prog tab98 := tab_cons tab128_ok F98_ok
/-- loop.example/g03413/laws.toRelationS -/
noncomputable def F55 : Am.Fn := mkFn C tab98 [0, 1, 3, 4, 14, 16, 18] 23 (fun k => bif k == 1000003 then some 25 else none) ⟨fun _ _ => none, fun s => Nat.testBit 0 s, fun _ => []⟩ [(ty78, .ro)] [(ty84, 4)] [.tmp 2] (Try.f55.body.getD .skip)
theorem F55_ok : FnOk Try.prog 55 F55 := by
  unfold F55
  exact mkFn_ok (fn := Try.f55) mix C_ok tab98_ok Try.func55 (by kernel_rfl) (by kernel_rfl) (by kernel_rfl) (by kernel_rfl) (by decide)
noncomputable def tab55 : Tab := fun f => bif f == 55 then some F55 else tab98 f
theorem tab55_ok : TabOk Try.prog tab55 := tab_cons tab98_ok F55_ok
/-- loop.example/g03413/laws.toOp -/
noncomputable def F56 : Am.Fn := mkFn C tab55 [0, 1, 2, 3, 4, 7, 10, 13, 17] 22 (fun k => bif k == 2 then some 14 else bif k == 3 then some 14 else bif k == 4 then some 14 else bif k == 5 then some 14 else bif k == 6 then some 14 else bif k == 7 then some 12 else none) ⟨fun _ _ => none, fun s => Nat.testBit 14 s, fun r => bif r == 1 then [14, 18] else bif r == 2 then [] else bif r == 3 then [21] else []⟩ [(ty80, .ro)] [(ty87, 2)] [.cell 2 87] (Try.f56.body.getD .skip)
theorem F56_ok : FnOk Try.prog 56 F56 := by
  unfold F56
  exact mkFn_ok (fn := Try.f56) mix C_ok tab55_ok Try.func56 (by kernel_rfl) (by kernel_rfl) (by kernel_rfl) (by kernel_rfl) (by decide)
noncomputable def tab56 : Tab := fun f => bif f == 56 then some F56 else tab55 f
theorem tab56_ok : TabOk Try.prog tab56 := tab_cons tab55_ok F56_ok
/-- loop.example/g03413/spec.FindRelation -/
noncomputable def F95 : Am.Fn := mkFn C tab56 [0, 1, 2, 3, 5, 12, 14, 15] 20 (fun k => bif k == 1000002 then some 35 else none) ⟨fun _ _ => none, fun s => Nat.testBit 0 s, fun _ => []⟩ [(ty84, .ro), (ty9, .ro)] [(ty3, 0)] [.tmp 4] (Try.f95.body.getD .skip)
theorem F95_ok : FnOk Try.prog 95 F95 := by
  unfold F95
  exact mkFn_ok (fn := Try.f95) mix C_ok tab56_ok Try.func95 (by kernel_rfl) (by kernel_rfl) (by kernel_rfl) (by kernel_rfl) (by decide)
noncomputable def tab95 : Tab := fun f => bif f == 95 then some F95 else tab56 f
theorem tab95_ok : TabOk Try.prog tab95 := tab_cons tab56_ok F95_ok
/-- loop.example/g03413/spec.l5Word -/
noncomputable def F97 : Am.Fn := mkFn C tab95 [0, 1, 2, 3, 4, 5, 7] 29 (fun k => bif k == 1000002 then some 135 else none) ⟨fun _ _ => none, fun s => Nat.testBit 0 s, fun _ => []⟩ [(ty9, .ro), (ty5, .ro), (ty5, .ro)] [(ty4, 0)] [.tmp 6] (Try.f97.body.getD .skip)
theorem F97_ok : FnOk Try.prog 97 F97 := by
  unfold F97
  exact mkFn_ok (fn := Try.f97) mix C_ok tab95_ok Try.func97 (by kernel_rfl) (by kernel_rfl) (by kernel_rfl) (by kernel_rfl) (by decide)
noncomputable def tab97 : Tab := fun f => bif f == 97 then some F97 else tab95 f
theorem tab97_ok : TabOk Try.prog tab97 := tab_cons tab95_ok F97_ok
/-- loop.example/g03413/spec.IsRelation -/
noncomputable def F127 : Am.Fn := mkFn C tab97 [0, 1, 3, 5, 11, 12, 14, 15, 20, 21, 23, 24, 30, 31, 33, 34, 35, 37, 41, 45, 50] 55 (fun k => bif k == 2 then some 14 else bif k == 6 then some 6 else bif k == 1000002 then some 10 else none) ⟨fun _ _ => none, fun s => Nat.testBit 2 s, fun r => bif r == 1 then [6, 12, 14, 15, 21, 23, 24, 25, 31, 33, 34, 35, 51] else []⟩ [(ty141, .ro)] [(ty4, 0)] [.tmp 2] (Try.f127.body.getD .skip)
theorem F127_ok : FnOk Try.prog 127 F127 := by
  unfold F127
  exact mkFn_ok (fn := Try.f127) mix C_ok tab97_ok Try.func127 (by kernel_rfl) (by kernel_rfl) (by kernel_rfl) (by kernel_rfl) (by decide)
noncomputable def tab127 : Tab := fun f => bif f == 127 then some F127 else tab97 f
theorem tab127_ok : TabOk Try.prog tab127 := tab_cons tab97_ok F127_ok
/-- loop.example/g03413/spec.IsDatabase -/
noncomputable def F96 : Am.Fn := mkFn C tab127 [0, 1, 3, 10, 12, 17, 20, 22, 23] 31 (fun k => bif k == 1000002 then some 9 else none) ⟨fun _ _ => none, fun s => Nat.testBit 0 s, fun _ => []⟩ [(ty84, .ro)] [(ty4, 0)] [.tmp 2] (Try.f96.body.getD .skip)
theorem F96_ok : FnOk Try.prog 96 F96 := by
  unfold F96
  exact mkFn_ok (fn := Try.f96) mix C_ok tab127_ok Try.func96 (by kernel_rfl) (by kernel_rfl) (by kernel_rfl) (by kernel_rfl) (by decide)
noncomputable def tab96 : Tab := fun f => bif f == 96 then some F96 else tab127 f
theorem tab96_ok : TabOk Try.prog tab96 := tab_cons tab127_ok F96_ok
/-- loop.example/g03413/spec.IsOp -/
noncomputable def F54 : Am.Fn := mkFn C tab96 [0, 1, 2, 3, 5, 6, 8, 19, 25, 30, 34, 40, 41, 43, 47, 50, 52, 53, 57, 58, 63, 64, 69, 74, 79, 80, 82, 84, 85] 89 (fun k => bif k == 6 then some 121 else bif k == 10 then some 57 else bif k == 11 then some 57 else bif k == 1000006 then some 105 else none) ⟨fun _ _ => none, fun s => Nat.testBit 8 s, fun r => bif r == 3 then [35, 41, 43, 48, 65, 70, 75] else []⟩ [(ty84, .ro), (ty87, .ro)] [(ty4, 0)] [.tmp 4] (Try.f54.body.getD .skip)
theorem F54_ok : FnOk Try.prog 54 F54 := by
  unfold F54
  exact mkFn_ok (fn := Try.f54) mix C_ok tab96_ok Try.func54 (by kernel_rfl) (by kernel_rfl) (by kernel_rfl) (by kernel_rfl) (by decide)
noncomputable def tab54 : Tab := fun f => bif f == 54 then some F54 else tab96 f
theorem tab54_ok : TabOk Try.prog tab54 := tab_cons tab96_ok F54_ok
/-- loop.example/g03413/impl.isWord -/
noncomputable def F130 : Am.Fn := mkFn C tab54 [0, 1, 2, 3, 4, 5, 7] 34 (fun k => bif k == 1000004 then some 135 else none) ⟨fun _ _ => none, fun s => Nat.testBit 0 s, fun _ => []⟩ [(ty9, .ro), (ty5, .ro), (ty5, .ro)] [(ty4, 0)] [.tmp 6] (Try.f130.body.getD .skip)
theorem F130_ok : FnOk Try.prog 130 F130 := by
  unfold F130
  exact mkFn_ok (fn := Try.f130) mix C_ok tab54_ok Try.func130 (by kernel_rfl) (by kernel_rfl) (by kernel_rfl) (by kernel_rfl) (by decide)
noncomputable def tab130 : Tab := fun f => bif f == 130 then some F130 else tab54 f
theorem tab130_ok : TabOk Try.prog tab130 := tab_cons tab54_ok F130_ok
/-- loop.example/g03413/impl.isName -/
noncomputable def F137 : Am.Fn := mkFn C tab130 [0, 1] 5 (fun _ => none) ⟨fun _ _ => none, fun s => Nat.testBit 0 s, fun _ => []⟩ [(ty9, .ro)] [(ty4, 0)] [.tmp 2] (Try.f137.body.getD .skip)
theorem F137_ok : FnOk Try.prog 137 F137 := by
  unfold F137
  exact mkFn_ok (fn := Try.f137) mix C_ok tab130_ok Try.func137 (by kernel_rfl) (by kernel_rfl) (by kernel_rfl) (by kernel_rfl) (by decide)
noncomputable def tab137 : Tab := fun f => bif f == 137 then some F137 else tab130 f
theorem tab137_ok : TabOk Try.prog tab137 := tab_cons tab130_ok F137_ok
/-- loop.example/g03413/impl.isLabel -/
noncomputable def F100 : Am.Fn := mkFn C tab137 [0, 1] 5 (fun _ => none) ⟨fun _ _ => none, fun s => Nat.testBit 0 s, fun _ => []⟩ [(ty9, .ro)] [(ty4, 0)] [.tmp 2] (Try.f100.body.getD .skip)
theorem F100_ok : FnOk Try.prog 100 F100 := by
  unfold F100
  exact mkFn_ok (fn := Try.f100) mix C_ok tab137_ok Try.func100 (by kernel_rfl) (by kernel_rfl) (by kernel_rfl) (by kernel_rfl) (by decide)
noncomputable def tab100 : Tab := fun f => bif f == 100 then some F100 else tab137 f
theorem tab100_ok : TabOk Try.prog tab100 := tab_cons tab137_ok F100_ok
/-- loop.example/g03413/impl.IsRelation -/
noncomputable def F129 : Am.Fn := mkFn C tab100 [0, 1, 3, 4, 5, 10, 15, 20, 25, 26, 30, 32, 37, 43, 44, 46] 51 (fun k => bif k == 1 then some 6 else bif k == 3 then some 6 else bif k == 5 then some 503316486 else bif k == 1000004 then some 503316482 else none) ⟨fun _ _ => none, fun s => Nat.testBit 18 s, fun r => bif r == 1 then [21, 26, 30, 31] else bif r == 4 then [38] else []⟩ [(ty141, .ro)] [(ty4, 0)] [.tmp 2] (Try.f129.body.getD .skip)
theorem F129_ok : FnOk Try.prog 129 F129 := by
  unfold F129
  exact mkFn_ok (fn := Try.f129) mix C_ok tab100_ok Try.func129 (by kernel_rfl) (by kernel_rfl) (by kernel_rfl) (by kernel_rfl) (by decide)
noncomputable def tab129 : Tab := fun f => bif f == 129 then some F129 else tab100 f
theorem tab129_ok : TabOk Try.prog tab129 := tab_cons tab100_ok F129_ok
/-- loop.example/g03413/impl.FindRelation -/
noncomputable def F101 : Am.Fn := mkFn C tab129 [0, 1, 2, 3, 5, 6, 7, 12, 14] 20 (fun k => bif k == 1 then some 19 else bif k == 3 then some 915 else bif k == 1000002 then some 899 else none) ⟨fun _ _ => none, fun s => Nat.testBit 64 s, fun r => bif r == 6 then [] else []⟩ [(ty84, .ro), (ty9, .ro)] [(ty3, 0)] [.tmp 4] (Try.f101.body.getD .skip)
theorem F101_ok : FnOk Try.prog 101 F101 := by
  unfold F101
  exact mkFn_ok (fn := Try.f101) mix C_ok tab129_ok Try.func101 (by kernel_rfl) (by kernel_rfl) (by kernel_rfl) (by kernel_rfl) (by decide)
noncomputable def tab101 : Tab := fun f => bif f == 101 then some F101 else tab129 f
theorem tab101_ok : TabOk Try.prog tab101 := tab_cons tab129_ok F101_ok
/-- loop.example/g03413/impl.IsDatabase -/
noncomputable def F99 : Am.Fn := mkFn C tab101 [0, 1, 3, 4, 8, 13, 20] 27 (fun k => bif k == 1 then some 5 else bif k == 3 then some 5 else bif k == 5 then some 1797 else bif k == 1000004 then some 1793 else none) ⟨fun _ _ => none, fun s => Nat.testBit 16 s, fun r => bif r == 4 then [15] else []⟩ [(ty84, .ro)] [(ty4, 0)] [.tmp 2] (Try.f99.body.getD .skip)
theorem F99_ok : FnOk Try.prog 99 F99 := by
  unfold F99
  exact mkFn_ok (fn := Try.f99) mix C_ok tab101_ok Try.func99 (by kernel_rfl) (by kernel_rfl) (by kernel_rfl) (by kernel_rfl) (by decide)
noncomputable def tab99 : Tab := fun f => bif f == 99 then some F99 else tab101 f
theorem tab99_ok : TabOk Try.prog tab99 := tab_cons tab101_ok F99_ok
/-- loop.example/g03413/impl.IsOp -/
noncomputable def F57 : Am.Fn := mkFn C tab99 [0, 1, 2, 3, 5, 6, 7, 12, 17, 22, 28, 33, 36, 41, 46, 47, 49, 51, 52, 56, 59, 61, 62, 66, 67, 72, 73, 78, 79, 83] 89 (fun k => bif k == 7 then some 57 else bif k == 8 then some 57 else bif k == 10 then some 24 else bif k == 1000011 then some 4533471823554859405148168 else none) ⟨fun _ _ => none, fun s => Nat.testBit 8 s, fun r => bif r == 3 then [37, 42, 57, 74, 79, 83] else []⟩ [(ty84, .ro), (ty87, .ro)] [(ty4, 0)] [.tmp 4] (Try.f57.body.getD .skip)
theorem F57_ok : FnOk Try.prog 57 F57 := by
  unfold F57
  exact mkFn_ok (fn := Try.f57) mix C_ok tab99_ok Try.func57 (by kernel_rfl) (by kernel_rfl) (by kernel_rfl) (by kernel_rfl) (by decide)
noncomputable def tab57 : Tab := fun f => bif f == 57 then some F57 else tab99 f
theorem tab57_ok : TabOk Try.prog tab57 := tab_cons tab99_ok F57_ok
/-- loop.example/g03413/laws.eqRow -/
noncomputable def F138 : Am.Fn := mkFn C tab57 [0, 1, 2, 3, 5, 7, 10, 12] 16 (fun _ => none) ⟨fun _ _ => none, fun s => Nat.testBit 12 s, fun r => bif r == 2 then [11] else bif r == 3 then [13] else []⟩ [(ty169, .ro), (ty169, .ro)] [(ty4, 0)] [.tmp 4] (Try.f138.body.getD .skip)
theorem F138_ok : FnOk Try.prog 138 F138 := by
  unfold F138
  exact mkFn_ok (fn := Try.f138) mix C_ok tab57_ok Try.func138 (by kernel_rfl) (by kernel_rfl) (by kernel_rfl) (by kernel_rfl) (by decide)
noncomputable def tab138 : Tab := fun f => bif f == 138 then some F138 else tab57 f
theorem tab138_ok : TabOk Try.prog tab138 := tab_cons tab57_ok F138_ok
/-- loop.example/g03413/laws.eqRowS -/
noncomputable def F131 : Am.Fn := mkFn C tab138 [0, 1, 2, 3, 5, 17, 19, 21, 23] 27 (fun k => bif k == 1000004 then some 35 else none) ⟨fun _ _ => none, fun s => Nat.testBit 0 s, fun _ => []⟩ [(ty139, .ro), (ty139, .ro)] [(ty4, 0)] [.tmp 4] (Try.f131.body.getD .skip)
theorem F131_ok : FnOk Try.prog 131 F131 := by
  unfold F131
  exact mkFn_ok (fn := Try.f131) mix C_ok tab138_ok Try.func131 (by kernel_rfl) (by kernel_rfl) (by kernel_rfl) (by kernel_rfl) (by decide)
noncomputable def tab131 : Tab := fun f => bif f == 131 then some F131 else tab138 f
theorem tab131_ok : TabOk Try.prog tab131 := tab_cons tab138_ok F131_ok
/-- loop.example/g03413/laws.eqRelation -/
noncomputable def F102 : Am.Fn := mkFn C tab131 [0, 1, 2, 3, 5, 7, 10, 12, 15, 17] 21 (fun _ => none) ⟨fun _ _ => none, fun s => Nat.testBit 12 s, fun r => bif r == 2 then [16] else bif r == 3 then [18] else []⟩ [(ty141, .ro), (ty141, .ro)] [(ty4, 0)] [.tmp 4] (Try.f102.body.getD .skip)
theorem F102_ok : FnOk Try.prog 102 F102 := by
  unfold F102
  exact mkFn_ok (fn := Try.f102) mix C_ok tab131_ok Try.func102 (by kernel_rfl) (by kernel_rfl) (by kernel_rfl) (by kernel_rfl) (by decide)
noncomputable def tab102 : Tab := fun f => bif f == 102 then some F102 else tab131 f
theorem tab102_ok : TabOk Try.prog tab102 := tab_cons tab131_ok F102_ok
/-- loop.example/g03413/laws.eqRelationS -/
noncomputable def F58 : Am.Fn := mkFn C tab102 [0, 1, 2, 3, 5, 17, 19, 21, 23] 27 (fun k => bif k == 1000004 then some 35 else none) ⟨fun _ _ => none, fun s => Nat.testBit 0 s, fun _ => []⟩ [(ty84, .ro), (ty84, .ro)] [(ty4, 0)] [.tmp 4] (Try.f58.body.getD .skip)
theorem F58_ok : FnOk Try.prog 58 F58 := by
  unfold F58
  exact mkFn_ok (fn := Try.f58) mix C_ok tab102_ok Try.func58 (by kernel_rfl) (by kernel_rfl) (by kernel_rfl) (by kernel_rfl) (by decide)
noncomputable def tab58 : Tab := fun f => bif f == 58 then some F58 else tab102 f
theorem tab58_ok : TabOk Try.prog tab58 := tab_cons tab102_ok F58_ok
/-- loop.example/g03413/laws.eqOp -/
noncomputable def F59 : Am.Fn := mkFn C tab58 [0, 1, 2, 3, 5, 7, 10, 12, 15, 17, 20, 22, 26, 28] 32 (fun _ => none) ⟨fun _ _ => none, fun s => Nat.testBit 12 s, fun r => bif r == 2 then [21, 27] else bif r == 3 then [23, 29] else []⟩ [(ty87, .ro), (ty87, .ro)] [(ty4, 0)] [.tmp 4] (Try.f59.body.getD .skip)
theorem F59_ok : FnOk Try.prog 59 F59 := by
  unfold F59
  exact mkFn_ok (fn := Try.f59) mix C_ok tab58_ok Try.func59 (by kernel_rfl) (by kernel_rfl) (by kernel_rfl) (by kernel_rfl) (by decide)
noncomputable def tab59 : Tab := fun f => bif f == 59 then some F59 else tab58 f
theorem tab59_ok : TabOk Try.prog tab59 := tab_cons tab58_ok F59_ok
/-- loop.example/g03413/laws.FnExactIsOp -/
noncomputable def F12 : Am.Fn := mkFn C tab59 [0, 1, 2, 3, 5, 6, 7, 8, 9] 45 (fun k => bif k == 10 then some 217 else none) ⟨fun _ _ => none, fun s => Nat.testBit 264 s, fun r => bif r == 3 then [15, 22, 27, 41] else bif r == 8 then [30, 40] else []⟩ [(ty78, .ro), (ty80, .ro)] [(ty4, 0)] [.tmp 4] (Try.f12.body.getD .skip)
theorem F12_ok : FnOk Try.prog 12 F12 := by
  unfold F12
  exact mkFn_ok (fn := Try.f12) mix C_ok tab59_ok Try.func12 (by kernel_rfl) (by kernel_rfl) (by kernel_rfl) (by kernel_rfl) (by decide)
noncomputable def tab12 : Tab := fun f => bif f == 12 then some F12 else tab59 f
theorem tab12_ok : TabOk Try.prog tab12 := tab_cons tab59_ok F12_ok
end Go.Proofs.Ytdfcejijcnhcaaa.D.It
