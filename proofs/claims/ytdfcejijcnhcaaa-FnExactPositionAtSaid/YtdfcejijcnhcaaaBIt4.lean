/- A part of the proof: It4. No conditions. -/
import Derived.Test.YtdfcejijcnhcaaaBIt3
set_option linter.unusedVariables false
namespace Go.Proofs.Ytdfcejijcnhcaaa.B.It
open Am

theorem wrap_id {x : Int} (h1 : -9223372036854775808 ≤ x) (h2 : x ≤ 9223372036854775807) : IntKind.i64.wrap x = x := by
  rw [IntKind.wrap_i64]; omega

theorem getI_ok {α : Type} {xs : List α} {i : Nat} (h : i < xs.length) : getI xs (i : Int) = some xs[i] := by
  unfold getI
  rw [if_pos (by omega)]
  simp [h]

theorem S23_val (r : Int × Int) : S23 r = some ((r, ()), ()) := S23_eq r
theorem S63_val (s : (Int × Int) × (Int × Int) × Int × Int) : S63 s = some ((s, ()), ()) := by
  rw [S63_eq]; simp only [S23_val, Option.bind_some]

theorem L15_val (x0 : List ((Int × Int) × (Int × Int) × Int × Int)) (hl : x0.length ≤ 1048576) : ∀ (n i : Nat) (x3 : List ((Int × Int) × (Int × Int) × Int × Int)), n + i = x0.length → x3.length = x0.length →
    L15_3 x0 x3 (i : Int) = some ((x3.take i ++ x0.drop i, ()), ())
  | 0, i, x3, hn, h3 => by
    rw [L15_3_eq]
    have : decide ((i : Int) < (x0.length : Int)) = false := by simp; omega
    rw [this, cond_false, List.take_of_length_le (by omega), List.drop_eq_nil_of_le (by omega)]
    simp
  | n + 1, i, x3, hn, h3 => by
    rw [L15_3_eq]
    have : decide ((i : Int) < (x0.length : Int)) = true := by simp; omega
    rw [this, cond_true, getI_ok (by omega), Option.bind_some, S63_val, Option.bind_some, getI_ok (by omega), Option.bind_some, Option.bind_some, Option.bind_some]
    rw [show IntKind.i64.wrap ((i : Int) + 1) = ((i + 1 : Nat) : Int) by rw [wrap_id] <;> omega]
    rw [L15_val x0 hl n (i + 1) _ (by omega) (by simpa using h3)]
    congr 3
    simp only [Int.toNat_natCast]
    have e1 : (x3.set i x0[i]).take (i + 1) = x3.take i ++ [x0[i]] := by
      rw [List.take_add_one, List.take_set_of_le (by omega)]
      simp [h3, show i < x0.length by omega]
    rw [e1, List.append_assoc]
    congr 1
    rw [List.singleton_append]
    exact (List.drop_eq_getElem_cons (by omega)).symm

theorem S15_val (x0 : List ((Int × Int) × (Int × Int) × Int × Int)) (hl : x0.length ≤ 1048576) : S15 x0 = some ((x0, ()), ()) := by
  rw [S15_eq]
  have : (decide (0 ≤ (x0.length : Int)) && decide ((x0.length : Int) ≤ (x0.length : Int)) && decide ((x0.length : Int) * 48 ≤ 140737488355328) && decide ((x0.length : Int) ≤ 9223372036854775807)) = true := by
    simp; omega
  rw [this, cond_true]
  have := L15_val x0 hl x0.length 0 (List.replicate (x0.length : Int).toNat ty77.zero) (by omega) (by simp)
  simpa using this

theorem S27_val (a : Int × Int) : S27 a a = some ((true, ()), ()) := by
  rw [S27_eq]; simp
theorem S65_val (a : (Int × Int) × (Int × Int) × Int × Int) : S65 a a = some ((true, ()), ()) := by
  rw [S65_eq]; simp [S27_val]
theorem L17_val (x : List ((Int × Int) × (Int × Int) × Int × Int)) (hl : x.length ≤ 1048576) : ∀ (n i : Nat), n + i = x.length → L17_4 x x (i : Int) = some ((true, ()), ())
  | 0, i, hn => by
    rw [L17_4_eq]
    have : decide ((i : Int) < (x.length : Int)) = false := by simp; omega
    rw [this, cond_false]
  | n + 1, i, hn => by
    rw [L17_4_eq]
    have : decide ((i : Int) < (x.length : Int)) = true := by simp; omega
    rw [this, cond_true, getI_ok (by omega)]
    simp only [Option.bind_some, S65_val, Bool.not_true, cond_false]
    rw [show IntKind.i64.wrap ((i : Int) + 1) = ((i + 1 : Nat) : Int) by rw [wrap_id] <;> omega]
    exact L17_val x hl n (i + 1) (by omega)
theorem S17_val (x : List ((Int × Int) × (Int × Int) × Int × Int)) (hl : x.length ≤ 1048576) : S17 x x = some ((true, ()), ()) := by
  rw [S17_eq]
  have : ((x.length : Int) != (x.length : Int)) = false := by simp
  rw [this, cond_false]
  exact L17_val x hl x.length 0 (by omega)

/-! ### numbers -/
def numB (a : Int) : Bool := decide (-400000000 ≤ a) && decide (a ≤ 400000000)
theorem S62_val (a b c : Int) : S62 a b c = some ((decide (b ≤ a) && decide (a ≤ c), ()), ()) := by
  rw [S62_eq]
  by_cases h : a ≥ b
  · simp [h]
  · simp [h]
theorem S103_val (a : Int) : S103 a = some ((numB a, ()), ()) := by
  rw [S103_eq, S62_val, Option.bind_some]; rfl
theorem S105_val (a : Int) : S105 a = some ((numB a, ()), ()) := by
  rw [S105_eq]
  unfold numB
  by_cases h : a ≥ -400000000
  · simp [h]
  · simp [h]
theorem S71_val {a : Int} (h : numB a = true) : S71 a = some (((a.natAbs : Int), ()), ()) := by
  simp only [numB, Bool.and_eq_true, decide_eq_true_eq] at h
  rw [S71_eq]
  by_cases h0 : a < 0
  · simp only [h0, decide_true, cond_true]
    rw [wrap_id (by omega) (by omega)]
    congr 3; omega
  · simp only [h0, decide_false, cond_false]
    congr 3; omega
theorem S124_val {a : Int} (h : numB a = true) : S124 a = some (((a.natAbs : Int), ()), ()) := by
  simp only [numB, Bool.and_eq_true, decide_eq_true_eq] at h
  rw [S124_eq]
  rw [wrap_id (by omega) (by omega)]
  simp only [cond_true]
  congr 3
  split <;> omega

theorem tmod_num {a b : Int} (ha : numB a = true) (hb : b ≠ 0) : numB (Int.tmod a b) = true := by
  simp only [numB, Bool.and_eq_true, decide_eq_true_eq] at ha ⊢
  have h1 := Int.natAbs_tmod a b
  have h2 : a.natAbs % b.natAbs ≤ a.natAbs := Nat.mod_le _ _
  omega

theorem L104_val : ∀ (n : Nat) (a b : Int), b.natAbs ≤ n → numB a = true → numB b = true → L104_3 a b = some ((((Nat.gcd a.natAbs b.natAbs : Nat) : Int), ()), ())
  | n, a, b, hn, ha, hb => by
    rw [L104_3_eq]
    by_cases h0 : b = 0
    · subst h0
      simp only [bne_self_eq_false, cond_false, S124_val ha, Option.bind_some]
      simp
    · have : (b != 0) = true := by simpa using h0
      rw [this, cond_true, cond_true]
      have hlt : a.natAbs % b.natAbs < b.natAbs := Nat.mod_lt _ (by omega)
      have hm := Int.natAbs_tmod a b
      cases n with
      | zero => omega
      | succ n =>
        rw [L104_val n b (Int.tmod a b) (by omega) hb (tmod_num ha h0), hm]
        congr 4
        rw [Nat.gcd_comm a.natAbs, Nat.gcd_rec b.natAbs a.natAbs, Nat.gcd_comm]
  termination_by n => n

theorem L114_val : ∀ (n : Nat) (a b : Int), b.natAbs ≤ n → 0 ≤ a → 0 ≤ b → L114_2 a b = some ((((Nat.gcd a.natAbs b.natAbs : Nat) : Int), ()), ())
  | n, a, b, hn, ha, hb => by
    rw [L114_2_eq]
    by_cases h0 : b = 0
    · subst h0
      simp only [bne_self_eq_false, cond_false]
      simp
      omega
    · have : (b != 0) = true := by simpa using h0
      rw [this, cond_true, cond_true]
      have hlt : a.natAbs % b.natAbs < b.natAbs := Nat.mod_lt _ (by omega)
      have hm := Int.natAbs_tmod a b
      cases n with
      | zero => omega
      | succ n =>
        rw [L114_val n b (Int.tmod a b) (by omega) hb (Int.tmod_nonneg _ ha), hm]
        congr 4
        rw [Nat.gcd_comm a.natAbs, Nat.gcd_rec b.natAbs a.natAbs, Nat.gcd_comm]
  termination_by n => n

def gcdB (a b : Int) : Int := bif numB a && numB b then ((Nat.gcd a.natAbs b.natAbs : Nat) : Int) else 0
theorem S104_val (a b : Int) : S104 a b = some ((gcdB a b, ()), ()) := by
  rw [S104_eq, S103_val, S103_val]
  unfold gcdB
  cases ha : numB a <;> cases hb : numB b <;> simp only [Option.bind_some, Bool.not_true, Bool.not_false, cond_true, cond_false, Bool.and_true, Bool.and_false, Bool.and_self]
  exact L104_val _ a b (Nat.le_refl _) ha hb
theorem S106_val (a b : Int) : S106 a b = some ((gcdB a b, ()), ()) := by
  rw [S106_eq, S105_val, S105_val]
  unfold gcdB
  cases ha : numB a <;> cases hb : numB b <;> simp only [Option.bind_some, Bool.not_true, Bool.not_false, cond_true, cond_false, Bool.and_true, Bool.and_false, Bool.and_self]
  rw [S114_eq, S71_val ha, S71_val hb]
  simp only [Option.bind_some]
  rw [L114_val _ _ _ (Nat.le_refl _) (by omega) (by omega)]
  simp

def ratB (r : Int × Int) : Bool := decide (1 ≤ r.2) && decide (r.2 ≤ 400000000) && numB r.1 && (gcdB r.1 r.2 == 1)
theorem S60_val (r : Int × Int) : S60 r = some ((ratB r, ()), ()) := by
  rw [S60_eq, S62_val, S103_val, S104_val]
  unfold ratB
  simp only [Option.bind_some]
  cases h1 : (decide (1 ≤ r.2) && decide (r.2 ≤ 400000000)) <;> cases h2 : numB r.1 <;> simp
theorem S64_val (r : Int × Int) : S64 r = some ((ratB r, ()), ()) := by
  rw [S64_eq, S105_val, S106_val]
  unfold ratB
  simp only [Option.bind_some, ge_iff_le]
  cases h1 : decide (1 ≤ r.2) <;> cases h3 : decide (r.2 ≤ 400000000) <;> cases h2 : numB r.1 <;> simp

def lessB (a b : Int × Int) : Bool := decide (IntKind.i64.wrap (a.1 * b.2) < IntKind.i64.wrap (b.1 * a.2))
theorem S61_val (a b : Int × Int) : S61 a b = some ((lessB a b, ()), ()) := S61_eq a b
theorem S51_val {a b : Int × Int} (ha : ratB a = true) (hb : ratB b = true) : ∃ c, S51 a b = some ((c, ()), ()) ∧ (c != -1) = !lessB a b := by
  rw [S51_eq, S64_val, S64_val]
  simp only [Option.bind_some, ha, hb, Bool.not_true, cond_false]
  change ∃ c, (bif lessB a b then _ else _) = _ ∧ _
  cases h : lessB a b with
  | true => exact ⟨-1, rfl, rfl⟩
  | false =>
    rw [cond_false]
    cases h2 : decide (IntKind.i64.wrap (a.1 * b.2) > IntKind.i64.wrap (b.1 * a.2)) with
    | true => exact ⟨1, rfl, rfl⟩
    | false => exact ⟨0, rfl, rfl⟩

/-! ### tracks -/
abbrev Stp := (Int × Int) × (Int × Int) × Int × Int
def trk (x : List Stp) : Nat → Nat → Bool
  | 0, _ => true
  | n + 1, i => (match x[i]? with
    | some s => ratB s.1 && ratB s.2.1 && ratB s.2.2 && (match i with
      | 0 => true
      | j + 1 => match x[j]? with
        | some s' => lessB s'.1 s.1
        | none => true)
    | none => true) && trk x n (i + 1)

theorem L14_val (x : List Stp) (hl : x.length ≤ 1048576) : ∀ (n i : Nat), n + i = x.length → L14_2 x (i : Int) = some ((trk x n i && (decide (1 ≤ (x.length : Int)) && decide ((x.length : Int) ≤ 6)), ()), ())
  | 0, i, hn => by
    rw [L14_2_eq]
    have : decide ((i : Int) < (x.length : Int)) = false := by simp; omega
    rw [this, cond_false, S62_val]
    simp [trk]
  | n + 1, i, hn => by
    rw [L14_2_eq]
    have hi : i < x.length := by omega
    have : decide ((i : Int) < (x.length : Int)) = true := by simp; omega
    rw [this, cond_true, getI_ok hi]
    simp only [Option.bind_some, S60_val]
    rw [show IntKind.i64.wrap ((i : Int) + 1) = ((i + 1 : Nat) : Int) by rw [wrap_id] <;> omega, L14_val x hl n (i + 1) (by omega)]
    simp only [trk, List.getElem?_eq_getElem hi]
    cases h1 : ratB x[i].1 <;> cases h2 : ratB x[i].2.1 <;> cases h3 : ratB x[i].2.2 <;> simp
    cases i with
    | zero => simp
    | succ j =>
      have : (0 : Int) < ((j + 1 : Nat) : Int) := by omega
      simp only [this, decide_true, cond_true]
      rw [show IntKind.i64.wrap (((j + 1 : Nat) : Int) - 1) = ((j : Nat) : Int) by rw [wrap_id] <;> omega, getI_ok (by omega)]
      simp only [Option.bind_some, S61_val, List.getElem?_eq_getElem (show j < x.length by omega)]
      cases lessB x[j].1 x[j + 1].1 <;> simp

theorem L16_val (x : List Stp) (hl : x.length ≤ 1048576) : ∀ (n i : Nat), n + i = x.length → (∀ j (h : j < x.length), i = j + 1 → ratB x[j].1 = true) → L16_4 x x (x.length : Int) (i : Int) = some ((trk x n i, ()), ())
  | 0, i, hn, _ => by
    rw [L16_4_eq]
    have : decide ((i : Int) < (x.length : Int)) = false := by simp; omega
    rw [this, cond_false]
    rfl
  | n + 1, i, hn, hp => by
    rw [L16_4_eq]
    have hi : i < x.length := by omega
    have : decide ((i : Int) < (x.length : Int)) = true := by simp; omega
    rw [this, cond_true, getI_ok hi]
    simp only [Option.bind_some, S64_val]
    simp only [trk, List.getElem?_eq_getElem hi]
    cases h1 : ratB x[i].1
    · simp
    rw [show IntKind.i64.wrap ((i : Int) + 1) = ((i + 1 : Nat) : Int) by rw [wrap_id] <;> omega, L16_val x hl n (i + 1) (by omega) (fun j hj e => by
      have : j = i := by omega
      subst this
      exact h1)]
    cases h2 : ratB x[i].2.1 <;> cases h3 : ratB x[i].2.2 <;> simp
    cases i with
    | zero => simp
    | succ j =>
      have : (0 : Int) < ((j + 1 : Nat) : Int) := by omega
      simp only [this, decide_true, cond_true]
      rw [show IntKind.i64.wrap (((j + 1 : Nat) : Int) - 1) = ((j : Nat) : Int) by rw [wrap_id] <;> omega, getI_ok (by omega)]
      simp only [Option.bind_some, List.getElem?_eq_getElem (show j < x.length by omega)]
      obtain ⟨c, hc, hc2⟩ := S51_val (hp j (by omega) rfl) h1
      rw [hc]
      simp only [Option.bind_some, hc2]
      cases lessB x[j].1 x[j + 1].1 <;> simp

theorem isTrack_same (x : List Stp) (hl : x.length ≤ 1048576) : ∃ b, S14 x = some ((b, ()), ()) ∧ S16 x = some ((b, ()), ()) := by
  refine ⟨trk x x.length 0 && (decide (1 ≤ (x.length : Int)) && decide ((x.length : Int) ≤ 6)), ?_, ?_⟩
  · rw [S14_eq]
    exact L14_val x hl x.length 0 (by omega)
  · rw [S16_eq]
    by_cases h1 : (x.length : Int) < 1
    · have : ¬ (1 ≤ (x.length : Int)) := by omega
      simp [h1, this]
    · by_cases h2 : (x.length : Int) > 6
      · have : ¬ ((x.length : Int) ≤ 6) := by omega
        simp only [h1, h2, decide_false, decide_true, cond_false, cond_true, this]
        simp
      · have e1 : 1 ≤ (x.length : Int) := by omega
        have e2 : (x.length : Int) ≤ 6 := by omega
        simp only [h1, h2, decide_false, cond_false, e1, e2, decide_true, Bool.and_self, Bool.and_true]
        exact L16_val x hl x.length 0 (by omega) (fun j _ e => by omega)

theorem law3 (x : List Stp) (h63 : x.length ≤ maxLen) : S3 x = some ((true, ()), ()) := by
  rw [S3_eq, S13_eq]
  have hm : maxLen = 9223372036854775807 := by decide
  rw [hm] at h63
  rw [wrap_id (by omega) (by omega)]
  by_cases h : (1048576 - (x.length : Int)) < 0
  · simp [h]
  · have hl : x.length ≤ 1048576 := by omega
    obtain ⟨b, hb1, hb2⟩ := isTrack_same x hl
    simp only [h, decide_false, cond_false, Option.bind_some, S15_val x hl, hb1, hb2, S17_val x hl]
    cases b <;> simp
end Go.Proofs.Ytdfcejijcnhcaaa.B.It
