/- A part of the proof: It7c. No conditions. -/
import Derived.Test.YtdfcejijcnhcaaaCIt6c
import Derived.Test.YtdfcejijcnhcaaaCAm33
set_option linter.unusedVariables false
set_option linter.unusedSimpArgs false
namespace Go.Proofs.Ytdfcejijcnhcaaa.C.It
open Am

theorem findB_or {α : Type} (p : α → Bool) (x : List α) : (decide (findB p x < 0) = true) ∨ (decide (findB p x < 0) = false ∧ ∃ y, getI x (findB p x) = some y) := by
  unfold findB
  by_cases h : x.findIdx p < x.length
  · rw [if_pos h]
    refine .inr ⟨by simp, _, getI_ok h⟩
  · rw [if_neg h]
    exact .inl rfl

/-- The numbers of a move. -/
def movB (y : Int) : Bool := decide (-1000 ≤ y) && decide (y ≤ 1000)
theorem S77_val (y : Int) : S77 y = some ((movB y, ()), ()) := by
  rw [S77_eq]
  unfold movB
  by_cases h : y ≥ -1000
  · simp [h]
  · simp [h]
def opB (x : List Rel) (o : Opn) : Bool :=
  dbB x && (decide (0 ≤ o.1) && decide (o.1 ≤ 3)) && wordB o.2.2.1 97 122 && !decide (findB (named o.2.1) x < 0) &&
    match getI x (findB (named o.2.1) x) with
    | some r => bif o.1 == 3 then o.2.2.2.2.all movB && ((o.2.2.2.2.length : Int) == r.2.1) && (o.2.2.2.1.1 == 0) && ((o.2.2.2.1.2.length : Int) == 0)
      else ((o.2.2.2.2.length : Int) == 0) && cellB o.2.2.2.1 && (o.2.2.2.1.1 == r.2.1)
    | none => true
theorem S54_val (x : List Rel) (o : Opn) (h : x.length ≤ 1048576 ∧ ∀ a ∈ x, gL a) (ho : gO o) : S54 x o = some ((opB x o, ()), ()) := by
  rw [S54_eq, S95_val _ _ h.1, S96_val _ h, S62_val, S97_val _ _ _ ho.2.1, S73_val _ ho.2.2.1.1]
  unfold opB
  simp only [Option.bind_some]
  cases dbB x
  · rfl
  rcases findB_or (named o.2.1) x with hf | ⟨hf, r, hr⟩
  · simp only [hf]; simp
  simp only [hf, hr, Option.bind_some]
  cases (decide (0 ≤ o.1) && decide (o.1 ≤ 3))
  · rfl
  cases wordB o.2.2.1 97 122
  · rfl
  simp only [Bool.not_true, cond_false, Bool.true_and, Bool.not_false]
  cases o.1 == 3
  · simp only [cond_false]
    cases ((o.2.2.2.2.length : Int) == 0) <;> cases cellB o.2.2.2.1 <;> rfl
  · simp only [cond_true]
    have := all_loop o.2.2.2.2 movB (some ((false, ()), ())) (L54_6 x o (findB (named o.2.1) x) (o.2.2.2.2.length : Int)) (fun i => L54_6 x o (findB (named o.2.1) x) i) ho.2.2.2 (fun i hi => by
      rw [L54_6_eq, getI_ok hi, wrap_succ (by have := ho.2.2.2; omega)]
      simp only [lt_yes hi, cond_true, Option.bind_some, S62_val]
      change (bif !movB o.2.2.2.2[i] then _ else _) = _
      cases movB o.2.2.2.2[i] <;> rfl) rfl o.2.2.2.2.length 0 (by omega)
    simp only [List.drop_zero, Int.natCast_zero] at this
    rw [show L54_6 x o (findB (named o.2.1) x) 0 = _ from this, L54_6_eq, lt_no, hr]
    simp only [Option.bind_some, cond_false]
    cases o.2.2.2.2.all movB <;> cases ((o.2.2.2.2.length : Int) == r.2.1) <;> cases (o.2.2.2.1.1 == 0) <;> rfl
theorem S57_val (x : List Rel) (o : Opn) (h : x.length ≤ 1048576) (ho : o.2.2.2.2.length ≤ 1048576) : S57 x o = some ((opB x o, ()), ()) := by
  rw [S57_eq, S99_val, S101_val _ _ h, S100_val, S76_val]
  unfold opB
  simp only [Option.bind_some]
  cases dbB x
  · rfl
  simp only [Bool.not_true, cond_false, Bool.true_and]
  by_cases h1 : o.1 < 0
  · have : ¬ (0 ≤ o.1) := by omega
    simp [h1, this]
  by_cases h2 : o.1 > 3
  · have : ¬ (o.1 ≤ 3) := by omega
    simp [h1, h2, this]
  have e1 : 0 ≤ o.1 := by omega
  have e2 : o.1 ≤ 3 := by omega
  simp only [h1, h2, e1, e2, decide_true, decide_false, cond_false, Bool.true_and]
  cases wordB o.2.2.1 97 122
  · rfl
  simp only [Bool.not_true, cond_false, Bool.true_and]
  rcases findB_or (named o.2.1) x with hf | ⟨hf, r, hr⟩
  · simp only [hf]; simp
  simp only [hf, hr, Option.bind_some, cond_false, Bool.not_false, Bool.true_and]
  have e3 : (o.1 != 3) = !(o.1 == 3) := rfl
  rw [e3]
  cases o.1 == 3
  · simp only [Bool.not_false, cond_true, cond_false]
    cases ((o.2.2.2.2.length : Int) == 0) <;> cases cellB o.2.2.2.1 <;> rfl
  · simp only [Bool.not_true, cond_true, cond_false]
    have := all_loop o.2.2.2.2 movB (some ((false, ()), ())) (some ((true, ()), ())) (fun i => L57_11 o o.2.2.2.2 (o.2.2.2.2.length : Int) i) ho (fun i hi => by
      rw [L57_11_eq, getI_ok hi, wrap_succ (by omega)]
      simp only [lt_yes hi, cond_true, Option.bind_some, S77_val]
      cases movB o.2.2.2.2[i] <;> rfl) (by rw [L57_11_eq, lt_no]; rfl) o.2.2.2.2.length 0 (by omega)
    simp only [List.drop_zero, Int.natCast_zero] at this
    rw [show L57_11 o o.2.2.2.2 (o.2.2.2.2.length : Int) 0 = _ from this]
    have f1 : ((o.2.2.2.2.length : Int) != r.2.1) = !((o.2.2.2.2.length : Int) == r.2.1) := rfl
    have f2 : (o.2.2.2.1.1 != 0) = !(o.2.2.2.1.1 == 0) := rfl
    have f3 : ((o.2.2.2.1.2.length : Int) != 0) = !((o.2.2.2.1.2.length : Int) == 0) := rfl
    rw [f1, f2, f3]
    cases o.2.2.2.2.all movB <;> cases ((o.2.2.2.2.length : Int) == r.2.1) <;> cases (o.2.2.2.1.1 == 0) <;> cases ((o.2.2.2.1.2.length : Int) == 0) <;> rfl

theorem wA_of {a : Atm} (h : WfD ty148 a) : wA a := h.1.1
theorem wC_of {c : Cel} (h : WfD ty44 c) : wC c := ⟨h.2.1, fun a ha => wA_of (h.2.2 a ha)⟩
theorem wR_of {c : Rw} (h : WfD ty167 c) : wR c := ⟨h.1, wC_of h.2⟩
theorem wL_of {c : Rel} (h : WfD ty135 c) : wL c := ⟨h.1, h.2.2.1, fun a ha => wR_of (h.2.2.2 a ha)⟩

theorem law12 (x : List Rel) (o : Opn) (hx : WfD ty78 x) (ho : WfD ty80 o) : S12 x o = some ((true, ()), ()) := by
  obtain ⟨m, e1, e2⟩ := S52_val x 1048576 ⟨hx.1, fun a ha => wL_of (hx.2 a ha)⟩ (by omega) (by omega)
  rw [S12_eq, e1]
  simp only [Option.bind_some]
  by_cases hm : m < 0
  · simp [hm]
  obtain ⟨c1, c2, c3⟩ := e2.resolve_left hm
  obtain ⟨m2, e3, e4⟩ := S53_val o m ⟨ho.2.1, ho.2.2.1, wC_of ho.2.2.2.1, ho.2.2.2.2.1⟩ c1 (by omega)
  simp only [hm, decide_false, cond_false, e3, Option.bind_some]
  by_cases hm2 : m2 < 0
  · simp [hm2]
  obtain ⟨d1, d2, d3⟩ := e4.resolve_left hm2
  simp only [hm2, decide_false, cond_false, S55_val x c3, S56_val o d3, Option.bind_some, S54_val x o c3 d3, S57_val x o c3.1 d3.2.2.2, S58_val x c3, S59_val o d3]
  cases opB x o <;> rfl
end Go.Proofs.Ytdfcejijcnhcaaa.C.It
