/- A part of the proof: It5d. No conditions. -/
import Derived.Test.YtdfcejijcnhcaaaDIt4d
set_option linter.unusedVariables false
set_option linter.unusedSimpArgs false
namespace Go.Proofs.Ytdfcejijcnhcaaa.D.It
open Am

theorem lt_yes {i n : Nat} (h : i < n) : decide ((i : Int) < (n : Int)) = true := by simp; omega
theorem lt_no (n : Nat) : decide ((n : Int) < (n : Int)) = false := by simp

/-! ### copies -/
theorem mk_ok {α R : Type} (x : List α) (c : Int) (hl : x.length ≤ 1048576) (h0 : 0 ≤ c) (hc : c ≤ 1000) (A B : R) : (bif decide (0 ≤ (x.length : Int)) && decide ((x.length : Int) ≤ (x.length : Int)) && decide ((x.length : Int) * c ≤ 140737488355328) && decide ((x.length : Int) ≤ 9223372036854775807) then A else B) = A := by
  have h1 : (x.length : Int) * c ≤ 1048576 * 1000 := Int.mul_le_mul (by omega) hc h0 (by omega)
  have h2 : (x.length : Int) * c ≤ 140737488355328 := by omega
  have h3 : (x.length : Int) ≤ 9223372036854775807 := by omega
  simp [h2, h3]
theorem S31_val (x : List Int) (hl : x.length ≤ 1048576) : S31 x = some ((x, ()), ()) := by
  rw [S31_eq, mk_ok x 8 hl (by omega) (by omega)]
  have := copy_loop x [] (fun y => some ((y, ()), ())) (fun v i => L31_3 x v i) hl (fun y _ => rfl) (fun i hi v hv => by
    rw [L31_3_eq, getI_ok hi, getI_ok (xs := v) (i := i) (by omega), wrap_succ (by omega)]
    simp only [lt_yes hi, cond_true, Option.bind_some, Int.toNat_natCast]) (fun v => by rw [L31_3_eq, lt_no]; rfl) x.length 0 (List.replicate (x.length : Int).toNat ty3.zero) (by omega) (by simp)
  simpa using this
theorem S112_val (a : Atm) (h : gA a) : S112 a = some ((a, ()), ()) := by
  rw [S112_eq, S31_val _ h]; rfl
theorem S75_val (x : List Atm) (hl : x.length ≤ 1048576 ∧ ∀ a ∈ x, gA a) : S75 x = some ((x, ()), ()) := by
  obtain ⟨hl, hg⟩ := hl
  rw [S75_eq, mk_ok x 40 hl (by omega) (by omega)]
  have := copy_loop x [] S112 (fun v i => L75_3 x v i) hl (fun y hy => S112_val y (hg y hy)) (fun i hi v hv => by
    rw [L75_3_eq, getI_ok hi, getI_ok (xs := v) (i := i) (by omega), wrap_succ (by omega)]
    simp only [lt_yes hi, cond_true, Option.bind_some, Int.toNat_natCast]) (fun v => by rw [L75_3_eq, lt_no]; rfl) x.length 0 (List.replicate (x.length : Int).toNat ty115.zero) (by omega) (by simp)
  simpa using this
theorem S30_val (c : Cel) (h : gC c) : S30 c = some ((c, ()), ()) := by
  rw [S30_eq, S75_val _ h]; rfl
theorem S136_val (r : Rw) (h : gR r) : S136 r = some ((r, ()), ()) := by
  rw [S136_eq, S30_val _ h.2]; rfl
theorem S128_val (x : List Rw) (hl : x.length ≤ 1048576 ∧ ∀ a ∈ x, gR a) : S128 x = some ((x, ()), ()) := by
  obtain ⟨hl, hg⟩ := hl
  rw [S128_eq, mk_ok x 48 hl (by omega) (by omega)]
  have := copy_loop x [] S136 (fun v i => L128_3 x v i) hl (fun y hy => S136_val y (hg y hy)) (fun i hi v hv => by
    rw [L128_3_eq, getI_ok hi, getI_ok (xs := v) (i := i) (by omega), wrap_succ (by omega)]
    simp only [lt_yes hi, cond_true, Option.bind_some, Int.toNat_natCast]) (fun v => by rw [L128_3_eq, lt_no]; rfl) x.length 0 (List.replicate (x.length : Int).toNat ty169.zero) (by omega) (by simp)
  simpa using this
theorem S98_val (r : Rel) (h : gL r) : S98 r = some ((r, ()), ()) := by
  rw [S98_eq, S128_val _ h.2]; rfl
theorem S55_val (x : List Rel) (hl : x.length ≤ 1048576 ∧ ∀ a ∈ x, gL a) : S55 x = some ((x, ()), ()) := by
  obtain ⟨hl, hg⟩ := hl
  rw [S55_eq, mk_ok x 48 hl (by omega) (by omega)]
  have := copy_loop x [] S98 (fun v i => L55_3 x v i) hl (fun y hy => S98_val y (hg y hy)) (fun i hi v hv => by
    rw [L55_3_eq, getI_ok hi, getI_ok (xs := v) (i := i) (by omega), wrap_succ (by omega)]
    simp only [lt_yes hi, cond_true, Option.bind_some, Int.toNat_natCast]) (fun v => by rw [L55_3_eq, lt_no]; rfl) x.length 0 (List.replicate (x.length : Int).toNat ty141.zero) (by omega) (by simp)
  simpa using this
theorem S56_val (o : Opn) (h : gO o) : S56 o = some ((o, ()), ()) := by
  rw [S56_eq, S30_val _ h.2.2.1, S31_val _ h.2.2.2]; rfl

/-! ### equalities of a thing with itself -/
theorem eq_loop {α R : Type} (x : List α) (F E : Option R) (f : Int → Option R) (hl : x.length ≤ 1048576)
    (h1 : ∀ (i : Nat) (h : i < x.length), f (i : Int) = f ((i + 1 : Nat) : Int)) (h2 : f (x.length : Int) = E) : f 0 = E := by
  have := all_loop x (fun _ => true) F E f hl (fun i h => by simpa using h1 i h) h2 x.length 0 (by omega)
  rw [show ((0 : Nat) : Int) = 0 from rfl, show (x.drop 0).all (fun _ => true) = true by rw [List.all_eq_true]; intros; rfl] at this
  exact this
theorem S34_val (x : List Int) (hl : x.length ≤ 1048576) : S34 x x = some ((true, ()), ()) := by
  rw [S34_eq]
  simp only [bne_self_eq_false, cond_false]
  refine eq_loop x none _ (fun i => L34_4 x x i) hl (fun i hi => ?_) ?_
  · rw [L34_4_eq, getI_ok hi, wrap_succ (by omega)]
    simp only [lt_yes hi, cond_true, Option.bind_some, bne_self_eq_false, cond_false]
  · rw [L34_4_eq, lt_no]; rfl
theorem S116_val (a : Atm) (h : gA a) : S116 a a = some ((true, ()), ()) := by
  rw [S116_eq, S34_val _ h]
  simp
theorem S79_val (x : List Atm) (h : x.length ≤ 1048576 ∧ ∀ a ∈ x, gA a) : S79 x x = some ((true, ()), ()) := by
  obtain ⟨hl, hg⟩ := h
  rw [S79_eq]
  simp only [bne_self_eq_false, cond_false]
  refine eq_loop x none _ (fun i => L79_4 x x i) hl (fun i hi => ?_) ?_
  · rw [L79_4_eq, getI_ok hi, wrap_succ (by omega)]
    simp only [lt_yes hi, cond_true, Option.bind_some, S116_val _ (hg _ (List.getElem_mem hi)), Bool.not_true, cond_false]
  · rw [L79_4_eq, lt_no]; rfl
theorem S33_val (c : Cel) (h : gC c) : S33 c c = some ((true, ()), ()) := by
  rw [S33_eq, S79_val _ h]
  simp
theorem S138_val (r : Rw) (h : gR r) : S138 r r = some ((true, ()), ()) := by
  rw [S138_eq, S33_val _ h.2]
  simp
theorem S131_val (x : List Rw) (h : x.length ≤ 1048576 ∧ ∀ a ∈ x, gR a) : S131 x x = some ((true, ()), ()) := by
  obtain ⟨hl, hg⟩ := h
  rw [S131_eq]
  simp only [bne_self_eq_false, cond_false]
  refine eq_loop x none _ (fun i => L131_4 x x i) hl (fun i hi => ?_) ?_
  · rw [L131_4_eq, getI_ok hi, wrap_succ (by omega)]
    simp only [lt_yes hi, cond_true, Option.bind_some, S138_val _ (hg _ (List.getElem_mem hi)), Bool.not_true, cond_false]
  · rw [L131_4_eq, lt_no]; rfl
theorem S102_val (r : Rel) (h : gL r) : S102 r r = some ((true, ()), ()) := by
  rw [S102_eq, S131_val _ h.2]
  simp
theorem S58_val (x : List Rel) (h : x.length ≤ 1048576 ∧ ∀ a ∈ x, gL a) : S58 x x = some ((true, ()), ()) := by
  obtain ⟨hl, hg⟩ := h
  rw [S58_eq]
  simp only [bne_self_eq_false, cond_false]
  refine eq_loop x none _ (fun i => L58_4 x x i) hl (fun i hi => ?_) ?_
  · rw [L58_4_eq, getI_ok hi, wrap_succ (by omega)]
    simp only [lt_yes hi, cond_true, Option.bind_some, S102_val _ (hg _ (List.getElem_mem hi)), Bool.not_true, cond_false]
  · rw [L58_4_eq, lt_no]; rfl
theorem S59_val (o : Opn) (h : gO o) : S59 o o = some ((true, ()), ()) := by
  rw [S59_eq, S33_val _ h.2.2.1, S34_val _ h.2.2.2]
  simp

/-! ### words -/
theorem getB_ok {x : ByteArray} {i : Nat} (h : i < x.data.toList.length) : getB x (i : Int) = some ((x.data.toList[i].toNat : Nat) : Int) := by
  unfold getB
  rw [if_pos (by omega)]
  have h' : i < x.size := by simpa using h
  simp only [Int.toNat_natCast]
  rw [show x[i]? = some x[i] from getElem?_pos x i h']
  simp only [Option.map_some]
  congr 3
def wordB (x : ByteArray) (a b : Int) : Bool := x.data.toList.all (fun c => !(decide (((c.toNat : Nat) : Int) < a)) && !(decide (((c.toNat : Nat) : Int) > b))) && (decide (1 ≤ (x.size : Int)) && decide ((x.size : Int) ≤ 6))
theorem size_is (x : ByteArray) : x.size = x.data.toList.length := by simp
theorem S62_val (a b c : Int) : S62 a b c = some ((decide (b ≤ a) && decide (a ≤ c), ()), ()) := by
  rw [S62_eq]
  by_cases h : a ≥ b
  · simp [h]
  · simp [h]
theorem S97_val (x : ByteArray) (a b : Int) (hl : x.size ≤ 1048576) : S97 x a b = some ((wordB x a b, ()), ()) := by
  rw [S97_eq]
  have := all_loop x.data.toList (fun c => !(decide (((c.toNat : Nat) : Int) < a)) && !(decide (((c.toNat : Nat) : Int) > b))) (some ((false, ()), ())) (some ((decide (1 ≤ (x.size : Int)) && decide ((x.size : Int) ≤ 6), ()), ())) (fun i => L97_2 x a b i) (by rw [← size_is]; exact hl) (fun i hi => by
    have hb : i < x.size := by rw [size_is]; exact hi
    rw [L97_2_eq, getB_ok hi, wrap_succ (by omega)]
    simp only [lt_yes hb, cond_true, Option.bind_some]
    cases decide (((x.data.toList[i].toNat : Nat) : Int) < a) <;> cases decide (((x.data.toList[i].toNat : Nat) : Int) > b) <;> rfl) (by rw [L97_2_eq, ← size_is, lt_no, S62_val]; rfl) x.data.toList.length 0 (by omega)
  simp only [List.drop_zero, Int.natCast_zero] at this
  rw [show L97_2 x a b 0 = _ from this]
  unfold wordB
  cases x.data.toList.all _ <;> rfl
theorem S130_val (x : ByteArray) (a b : Int) : S130 x a b = some ((wordB x a b, ()), ()) := by
  rw [S130_eq]
  unfold wordB
  by_cases h1 : (x.size : Int) < 1
  · have : ¬ (1 ≤ (x.size : Int)) := by omega
    simp [h1, this]
  · by_cases h2 : (x.size : Int) > 6
    · have : ¬ ((x.size : Int) ≤ 6) := by omega
      simp only [h1, h2, decide_false, decide_true, cond_false, cond_true, this, Bool.and_false]
    · have e1 : 1 ≤ (x.size : Int) := by omega
      have e2 : (x.size : Int) ≤ 6 := by omega
      simp only [h1, h2, decide_false, cond_false, e1, e2, decide_true, Bool.and_self, Bool.and_true]
      have := all_loop x.data.toList (fun c => !(decide (((c.toNat : Nat) : Int) < a)) && !(decide (((c.toNat : Nat) : Int) > b))) (some ((false, ()), ())) (some ((true, ()), ())) (fun i => L130_4 x a b i) (by rw [← size_is]; omega) (fun i hi => by
        have hb : i < x.size := by rw [size_is]; exact hi
        rw [L130_4_eq, getB_ok hi, wrap_succ (by omega)]
        simp only [lt_yes hb, cond_true, Option.bind_some]
        cases decide (((x.data.toList[i].toNat : Nat) : Int) < a) <;> cases decide (((x.data.toList[i].toNat : Nat) : Int) > b) <;> rfl) (by rw [L130_4_eq, ← size_is, lt_no]; rfl) x.data.toList.length 0 (by omega)
      simp only [List.drop_zero, Int.natCast_zero] at this
      rw [show L130_4 x a b 0 = _ from this]
      cases x.data.toList.all _ <;> rfl
theorem S137_val (x : ByteArray) : S137 x = some ((wordB x 65 90, ()), ()) := by
  rw [S137_eq, S130_val]; rfl
theorem S100_val (x : ByteArray) : S100 x = some ((wordB x 97 122, ()), ()) := by
  rw [S100_eq, S130_val]; rfl
end Go.Proofs.Ytdfcejijcnhcaaa.D.It
